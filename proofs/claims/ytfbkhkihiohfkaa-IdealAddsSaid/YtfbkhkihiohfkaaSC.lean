/- Commits' times; the document's Add. -/
import Derived.Test.YtfbkhkihiohfkaaSB
import Derived.Test.YtfbkhkihiohfkaaProg
import Derived.KernelRfl
section
set_option linter.unusedSimpArgs false
set_option linter.unusedVariables false
namespace Go.Q.S18
open Go.Q
structure Cm where
  ts : Int
  near : Bool
  ws : Option (List Wr)
def cmV (c : Cm) : V := .agg [.int .u64 c.ts, .bool c.near, slV 4 wrV c.ws]
theorem cmV_eq (c : Cm) : cmV c = .agg [.int .u64 c.ts, .bool c.near, slV 4 wrV c.ws] := rfl
def tsC (c : Cm) (l : List Fa) : Int := if c.near then IntKind.u64.wrap (lastT l + c.ts.tmod 4) else c.ts
theorem r14 (c : Cm) (o : Option (List Fa)) (h : (lst o).length < 4611686018427387904) : res T 14 [cmV c, slV 5 faV o] = some (.int .u64 (tsC c (lst o))) := by
  refine run_res (run_pure (fn := g14) rfl rfl (by decide) ?_)
  simp only [g14, b14, oO, oN, mV, lD, gO, pP, qQ, cI, aR]
  have f := f26 o h
  obtain ⟨ts, near, ws⟩ := c
  unfold tsC
  cases near
  · simp +contextual -implicitDefEqProofs (maxSteps := 2000000) only [↓wP, wQ, wQ1, wQ2, wQ3, wR, boxE, partsOf, ↓reduceIte, Nat.reduceEqDiff, Nat.reduceAdd, Nat.reduceSub, Nat.reduceLeDiff, Nat.reduceLT, Nat.reduceMul, reduceCtorEq, Int.reduceBNe, Int.reduceBEq, Int.reduceLT, Int.reduceLE, Int.reduceGT, cmV_eq]
  · have hr : ∀ (k : IntKind) (a : Int), binV .rem (.int k a) (.int k 4) = some (.int k (a.tmod 4)) := fun k a => bin_rem k a 4 (by decide)
    simp +contextual -implicitDefEqProofs (maxSteps := 2000000) only [↓wP, wQ, wQ1, wQ2, wQ3, wR, boxE, partsOf, ↓reduceIte, Nat.reduceEqDiff, Nat.reduceAdd, Nat.reduceSub, Nat.reduceLeDiff, Nat.reduceLT, Nat.reduceMul, reduceCtorEq, Int.reduceBNe, Int.reduceBEq, Int.reduceLT, Int.reduceLE, Int.reduceGT, cmV_eq, f, hr]
theorem f14 (c : Cm) (o : Option (List Fa)) (h : (lst o).length < 4611686018427387904) (fs : Bool) (σ : Sto) (n lk : Nat) : callE T fs 14 [cmV c, slV 5 faV o] σ n lk = some (.int .u64 (tsC c (lst o)), σ, n) :=
  callE_tr (by decide) (r14 c o h) (by simp [Tr, Tr_slV, cmV_eq]) rfl fs σ n lk
def htV : Nat → V → Bool
  | 0, _ => false
  | k + 1, .sl _ xs => xs.all fun x => match x with
    | .agg cs => cs.all (htV k)
    | x => htV k x
  | k + 1, .box cs => cs.all (htV k)
  | k + 1, .agg cs => cs.all (htV k)
  | k + 1, .tup cs => cs.all (htV k)
  | k + 1, .fn _ cs => cs.all (htV k)
  | k + 1, .bnd _ cs => cs.all (htV k)
  | k + 1, .iface _ v => htV k v
  | _ + 1, _ => true
theorem mapM_some {α β : Type} {f g : α → Option β} : ∀ {xs : List α} {ys : List β}, xs.mapM f = some ys → (∀ x ∈ xs, ∀ y ∈ ys, f x = some y → g x = some y) → xs.mapM g = some ys
  | [], ys, h, _ => by simpa using h
  | x :: xs, ys, h, hg => by
    rw [List.mapM_cons] at h
    cases hx : f x with
    | none => rw [hx] at h; simp at h
    | some y =>
      cases hxs : xs.mapM f with
      | none => rw [hx, hxs] at h; simp at h
      | some zs =>
        rw [hx, hxs] at h
        simp at h
        subst h
        rw [List.mapM_cons, hg x List.mem_cons_self y List.mem_cons_self hx, mapM_some hxs (fun a ha b hb => hg a (List.mem_cons_of_mem _ ha) b (List.mem_cons_of_mem _ hb))]
        rfl
theorem map_some {α β : Type} {f : α → β} {o : Option α} {y : β} (h : o.map f = some y) : ∃ x, o = some x ∧ f x = y := by
  cases o with
  | none => simp at h
  | some x => exact ⟨x, rfl, by simpa using h⟩
theorem frz_aggO {σ : Sto} {k : Nat} {x : V} {ds : List V} (h : frz σ k x = some (.agg ds)) : ∃ cs, x = .agg cs := by
  cases k with
  | zero => simp [frz] at h
  | succ k =>
    cases x
    case agg cs => exact ⟨cs, rfl⟩
    case ref id off len sz =>
      simp only [frz] at h
      cases he : elems σ sz (.ref id off len sz) with
      | none => rw [he] at h; simp at h
      | some xs => rw [he, Option.bind_some] at h; obtain ⟨ys, _, e⟩ := map_some h; cases e
    case ptr id sz i j =>
      simp only [frz] at h
      cases he : rowAt σ id sz i with
      | none => rw [he] at h; simp at h
      | some xs => rw [he, Option.bind_some] at h; obtain ⟨ys, _, e⟩ := map_some h; cases e
    case tup cs => simp only [frz] at h; obtain ⟨ys, _, e⟩ := map_some h; cases e
    case fn f cs => simp only [frz] at h; obtain ⟨ys, _, e⟩ := map_some h; cases e
    case bnd f cs => simp only [frz] at h; obtain ⟨ys, _, e⟩ := map_some h; cases e
    case iface f cs => simp only [frz] at h; obtain ⟨ys, _, e⟩ := map_some h; cases e
    all_goals simp [frz] at h
theorem frz_less {σ : Sto} : ∀ (k : Nat) (v t : V), frz σ (k + 1) v = some t → htV k t = true → frz σ k v = some t
  | 0, _, _, _, h => by simp [htV] at h
  | k + 1, v, t, h, ht => by
    have hcs : ∀ {cs ds : List V}, cs.mapM (frz σ (k + 1)) = some ds → ds.all (htV k) = true → cs.mapM (frz σ k) = some ds := fun hm ha =>
      mapM_some hm (fun x _ y hy hf => frz_less k x y hf (List.all_eq_true.1 ha y hy))
    cases v
    case ref id off len sz =>
      simp only [frz] at h ⊢
      cases he : elems σ sz (.ref id off len sz) with
      | none => rw [he] at h; simp at h
      | some xs =>
        rw [he, Option.bind_some] at h
        obtain ⟨ys, hy, rfl⟩ := map_some h
        rw [Option.bind_some]
        have : xs.mapM (elemM (frz σ k)) = some ys := mapM_some hy (fun x _ y hy hf => by
          have hy' := List.all_eq_true.1 (by simpa only [htV] using ht) y hy
          cases x
          case agg cs =>
            simp only [elemM] at hf ⊢
            obtain ⟨ds, hd, rfl⟩ := map_some hf
            rw [hcs hd hy']
            rfl
          all_goals
            simp only [elemM] at hf ⊢
            refine frz_less k _ _ hf ?_
            cases y
            case agg ds => obtain ⟨es, he⟩ := frz_aggO hf; cases he
            all_goals exact hy')
        rw [this]; rfl
    case ptr id sz i j =>
      simp only [frz] at h ⊢
      cases he : rowAt σ id sz i with
      | none => rw [he] at h; simp at h
      | some e =>
        rw [he, Option.bind_some] at h
        obtain ⟨ds, hd, rfl⟩ := map_some h
        rw [Option.bind_some, hcs hd (by simpa only [htV] using ht)]; rfl
    case iface t' v' =>
      simp only [frz] at h ⊢
      obtain ⟨d, hd, rfl⟩ := map_some h
      rw [frz_less k _ _ hd (by simpa only [htV] using ht)]; rfl
    case agg cs => simp only [frz] at h ⊢; obtain ⟨ds, hd, rfl⟩ := map_some h; rw [hcs hd (by simpa only [htV] using ht)]; rfl
    case tup cs => simp only [frz] at h ⊢; obtain ⟨ds, hd, rfl⟩ := map_some h; rw [hcs hd (by simpa only [htV] using ht)]; rfl
    case fn f cs => simp only [frz] at h ⊢; obtain ⟨ds, hd, rfl⟩ := map_some h; rw [hcs hd (by simpa only [htV] using ht)]; rfl
    case bnd f cs => simp only [frz] at h ⊢; obtain ⟨ds, hd, rfl⟩ := map_some h; rw [hcs hd (by simpa only [htV] using ht)]; rfl
    all_goals simpa only [frz] using h
theorem ht_vec (v : Vc) (k : Nat) : htV (k + 2) (slV 1 i32V v) = true := by
  cases v with
  | none => rfl
  | some l =>
    simp only [slV, htV, List.all_eq_true]
    intro x hx
    obtain ⟨t, -, rfl⟩ := List.mem_map.1 hx
    rfl
theorem ht_fa (o : Option (List Fa)) (k : Nat) : htV (k + 3) (slV 5 faV o) = true := by
  cases o with
  | none => rfl
  | some l =>
    simp only [slV, htV, List.all_eq_true]
    intro x hx
    obtain ⟨t, -, rfl⟩ := List.mem_map.1 hx
    have h1 : (faV t) = .agg [.int .u64 t.ts, .int .i64 t.w.c, .int .u64 t.w.id, .bool t.w.g, slV 1 i32V t.w.v] := rfl
    rw [h1]
    show List.all _ _ = true
    simp only [List.all_cons, List.all_nil, ht_vec, Bool.and_true]
    rfl
def mkF (ts : Int) (x : Wr) : Fa := ⟨ts, x⟩
def refE (l : List Fa) (ts : Int) (w : List Wr) : Int :=
  if ts ≤ lastT l ∨ 1099511627776 < ts then 181 else if (w.any fun x => x.g && !isB l (key x)) = true then 4 else if dimB (l ++ w.map (mkF ts)) = false then 151 else if 2000 < (l ++ w.map (mkF ts)).length then 6 else 0
theorem dmp_cp (l : List Fa) (c : Int) : dmp (l.map cpF) c = dmp l c := by unfold dmp; rw [List.foldl_map]; rfl
theorem dimU_cp (l : List Fa) : ∀ n, dimU (l.map cpF) n = dimU l n
  | 0 => rfl
  | n + 1 => by
    show (dimU (l.map cpF) n && _) = (dimU l n && _)
    rw [dimU_cp l n, List.getElem?_map]
    cases l[n]? with
    | none => rfl
    | some f =>
      show (_ && dim1 (l.map cpF) n (cpF f)) = (_ && dim1 l n f)
      unfold dim1
      rw [← List.map_take, dmp_cp]
      rfl
theorem dimB_cp (l : List Fa) : dimB (l.map cpF) = dimB l := by unfold dimB; rw [List.length_map]; exact dimU_cp l _
theorem rch_vec {σ : Sto} {x : Fa} {i : Nat} (h : σ i = some (.row 1 ((lst x.w.v).map i32V))) (k : Nat) : rch σ (k + 2) (vref i x) = [i] := by
  have h1 := (fz_vec (S := fun j => j = i) h rfl)
  unfold vref
  rw [rch_rf, h, elemsO_row, if_pos (by rw [List.length_map]; omega), List.drop_zero]
  simp only [Option.getD_some, List.take_of_length_le (show ((lst x.w.v).map i32V).length ≤ (lst x.w.v).length by rw [List.length_map]; omega)]
  congr 1
  rw [List.flatMap_eq_nil_iff]
  intro y hy
  obtain ⟨t, -, rfl⟩ := List.mem_map.1 hy
  rfl
theorem rch_rows {σ : Sto} (k : Nat) : ∀ {L : List Fa} {ids : List Nat}, FVecs σ L ids → ∀ x ∈ L.zipWith erow ids, ∀ c ∈ x.cells, ∀ id ∈ rch σ (k + 2) c, id ∈ ids
  | [], _, _, x, hx => by simp at hx
  | _ :: _, [], h, x, hx => by simp at hx
  | y :: L, i :: ids, h, x, hx => by
    obtain ⟨h0, h1⟩ := FVecs.cons.1 h
    rw [List.zipWith_cons_cons] at hx
    rcases List.mem_cons.1 hx with rfl | hx
    · intro c hc id hid
      simp only [erow, V.cells, List.mem_cons, List.not_mem_nil, or_false] at hc
      rcases hc with rfl | rfl | rfl | rfl | rfl
      · simp [rch] at hid
      · simp [rch] at hid
      · simp [rch] at hid
      · simp [rch] at hid
      · rw [rch_vec h0 k, List.mem_singleton] at hid
        rw [hid]; exact List.mem_cons_self
    · intro c hc id hid
      exact List.mem_cons_of_mem _ (rch_rows k h1 x hx c hc id hid)
theorem FChn.bls {σ : Sto} {m n : Nat} {v : V} {o : Option (List Fa)} (h : FChn σ m n v o) (ha : AllS (lst o)) : Bls σ 5 v (o.map (List.map faV)) (fun i => m ≤ i ∧ i < n) := by
  cases o with
  | none => exact h
  | some L =>
    obtain ⟨id, ids, rfl, h1, h2, h3, h4⟩ := h
    have hz := zip_len h4
    refine ⟨id, L.zipWith erow ids, by rw [hz], h1, h3 id List.mem_cons_self, ⟨frz_rows 9 h4 ha, ?_⟩⟩
    intro x hx c hc i hi
    have := rch_rows 9 h4 x hx c hc i hi
    exact ⟨h3 i (List.mem_cons_of_mem _ this), fun e => (List.nodup_cons.1 h2).1 (by rw [← e]; exact this)⟩
theorem c55 {σ : Sto} {i n : Nat} {w : Wr} (hw : (lst w.v).length ≤ 1000000) (h : σ i = some (.row 4 [.agg [.int .i64 w.c, .int .u64 w.id, .bool w.g, slV 1 i32V w.v]])) :
    callE T true 55 [.ref i 0 1 4] σ n 0 = some (.sl 4 [.agg [.int .i64 w.c, .int .u64 w.id, .bool w.g, slV 1 i32V (cp w.v)]], dropL σ [i], n) := by
  have r := r55 (some [w]) ⟨by show 1 ≤ _; decide, fun f hf => by rw [lst_some, List.mem_singleton] at hf; subst hf; exact hw⟩
  rw [show slV 4 wrV (some [w]) = V.sl 4 [wrV w] from rfl, wrV_eq, show slV 4 wrV (cpWs (some [w])) = V.sl 4 [.agg [.int .i64 w.c, .int .u64 w.id, .bool w.g, slV 1 i32V (cp w.v)]] from rfl] at r
  have h1 : frz σ 12 (.ref i 0 1 4) = some (.sl 4 [.agg [.int .i64 w.c, .int .u64 w.id, .bool w.g, slV 1 i32V w.v]]) := by
    rw [frz_rf, h, elemsO_row, if_pos (by show 0 + 1 ≤ 1; exact Nat.le_refl 1), List.drop_zero]
    simp only [List.take_succ_cons, List.take_zero, Option.bind_some, List.mapM_cons, List.mapM_nil, elemM_agg, frz_int, frz_bool, frz_slV]
    rfl
  have h2 : rch σ 12 (.ref i 0 1 4) = [i] := by
    rw [rch_rf, h, elemsO_row, if_pos (by show 0 + 1 ≤ 1; exact Nat.le_refl 1), List.drop_zero]
    simp only [List.take_succ_cons, List.take_zero, Option.getD_some, List.flatMap_cons, List.flatMap_nil, V.cells, rch_int, rch_bool, rch_slV, List.append_nil]
  rw [callE_eq (by decide)]
  simp only [List.mapM_cons, List.mapM_nil, List.flatMap_cons, List.flatMap_nil, h1, h2, Option.pure_def, Option.bind_eq_bind, Option.bind_some, callR_some, r, retE_some, List.append_nil]
  unfold backE
  rw [if_neg (by simp [flat]), if_pos (by simp), thaw_sl]
theorem lastT_some {l : List Fa} {n : Nat} (h : l.length = n + 1) : lastT l = (l[n]'(by omega)).ts := by
  unfold lastT
  have e : l.getLast? = some (l[n]'(by omega)) := by rw [List.getLast?_eq_getElem?, show l.length - 1 = n by omega, List.getElem?_eq_getElem (by omega)]
  rw [e]
theorem filter_last {l : List Fa} (h : okU l l.length = true) : l.filter (fun f => decide (f.ts ≤ lastT l)) = l := by
  rw [List.filter_eq_self]
  intro f hf
  obtain ⟨i, hi, rfl⟩ := List.mem_iff_getElem.1 hf
  obtain ⟨n, hn⟩ : ∃ n, l.length = n + 1 := ⟨l.length - 1, by omega⟩
  rw [lastT_some hn, decide_eq_true_eq]
  exact okU_ts (by omega) (by rw [← hn]; exact h) i (by omega)
def refL (l : List Fa) (ts : Int) (w : List Wr) : List Fa := if refE l ts w = 0 then (l ++ w.map (mkF ts)).map cpF else []
def noneAt (l : List Fa) (w : List Wr) : Bool := w.any fun x => x.g && !isB l (key x)
theorem noneAt_snoc (l : List Fa) (w : List Wr) (x : Wr) : noneAt l (w ++ [x]) = (noneAt l w || (x.g && !isB l (key x))) := by simp [noneAt]
theorem noneAt_take {l : List Fa} {w : List Wr} {j : Nat} (h : noneAt l (w.take j) = true) : noneAt l w = true := by
  unfold noneAt at *
  rw [List.any_eq_true] at *
  obtain ⟨x, hx, h⟩ := h
  exact ⟨x, List.mem_of_mem_take hx, h⟩
theorem refE_eq (l : List Fa) (ts : Int) (w : List Wr) : refE l ts w = if ts ≤ lastT l ∨ 1099511627776 < ts then 181 else if noneAt l w = true then 4 else if dimB (l ++ w.map (mkF ts)) = false then 151 else if 2000 < (l ++ w.map (mkF ts)).length then 6 else 0 := rfl
theorem r17 (l : Option (List Fa)) (ts : Int) (w : Option (List Wr)) (h : FitF (lst l)) (hk : okU (lst l) (lst l).length = true) (hw : FitW (lst w)) (hll : (lst l).length ≤ 2000) (hwl : (lst w).length ≤ 2000) : res T 17 [slV 5 faV l, .int .u64 ts, slV 4 wrV w] = some (.tup [slV 5 faV (oL (refL (lst l) ts (lst w))), .int .i64 (refE (lst l) ts (lst w))]) := by
  refine run_res (run_pure (fn := g17) rfl rfl (by decide) ?_)
  simp only [g17, b17, oO, oN, mV, lD, gO, pP, qQ, cI, aR]
  have f26' := f26 l h.sm.1
  have hl := h.1
  have hl2 := hw.1
  obtain ⟨E, hE⟩ : ∃ E, E = refE (lst l) ts (lst w) := ⟨_, rfl⟩
  obtain ⟨L, hL⟩ : ∃ L, L = refL (lst l) ts (lst w) := ⟨_, rfl⟩
  rw [← hE, ← hL]
  unfold refL at hL
  rw [← hE] at hL
  rw [refE_eq] at hE
  by_cases b1 : ts ≤ lastT (lst l)
  · rw [if_pos (Or.inl b1)] at hE
    rw [hE] at hL ⊢
    rw [if_neg (by decide)] at hL
    rw [hL]
    simp +contextual -implicitDefEqProofs (maxSteps := 2000000) only [↓wP, wQ, wQ1, wQ2, wQ3, wR, boxE, partsOf, ↓reduceIte, Nat.reduceEqDiff, Nat.reduceAdd, Nat.reduceSub, Nat.reduceLeDiff, Nat.reduceLT, Nat.reduceMul, reduceCtorEq, Int.reduceBNe, Int.reduceBEq, Int.reduceLT, Int.reduceLE, Int.reduceGT, f26', b1]
    rfl
  by_cases b2 : 1099511627776 < ts
  · rw [if_pos (Or.inr b2)] at hE
    rw [hE] at hL ⊢
    rw [if_neg (by decide)] at hL
    rw [hL]
    simp +contextual -implicitDefEqProofs (maxSteps := 2000000) only [↓wP, wQ, wQ1, wQ2, wQ3, wR, boxE, partsOf, ↓reduceIte, Nat.reduceEqDiff, Nat.reduceAdd, Nat.reduceSub, Nat.reduceLeDiff, Nat.reduceLT, Nat.reduceMul, reduceCtorEq, Int.reduceBNe, Int.reduceBEq, Int.reduceLT, Int.reduceLE, Int.reduceGT, f26', b1, b2]
    rfl
  rw [if_neg (by omega)] at hE
  obtain ⟨cv, σc, nc, t1, t2, t3, t4⟩ := thaw_ownF Sto.empty 0 (oL ((lst l).map cpF))
  have t11' := t11 l h true Sto.empty 0 0
  rw [t1] at t11'
  have hb0 := t2.bls (by rw [lst_oL]; exact all_cp _)
  rw [oL_map] at hb0
  have hm52 : T.mode 52 ≠ .raw := by decide
  simp +contextual -implicitDefEqProofs (maxSteps := 2000000) only [↓wP, wQ, wQ1, wQ2, wQ3, wR, boxE, partsOf, ↓reduceIte, Nat.reduceEqDiff, Nat.reduceAdd, Nat.reduceSub, Nat.reduceLeDiff, Nat.reduceLT, Nat.reduceMul, reduceCtorEq, Int.reduceBNe, Int.reduceBEq, Int.reduceLT, Int.reduceLE, Int.reduceGT, f26', b1, b2, t11']
  refine WC_for (lst w).length 0 (fun (j : Nat) env σ n => env 0 = slV 5 faV l ∧ env 1 = .int .u64 ts ∧ env 21 = slV 4 wrV w ∧ noneAt (lst l) ((lst w).take j) = false ∧ ∃ v, env 8 = v ∧ Bls σ 5 v (oL ((((lst l) ++ ((lst w).take j).map (mkF ts)).map cpF).map faV)) (fun i => i < n)) (by omega) (by decide) (by decide) (fun _ _ => rfl) (fun _ _ _ => rfl) ?_ ?_ _ _ _ rfl rfl ?_
  · intro j env σ n hj h1 h2 ⟨g0, g1, g2, g3, v, g4, g5⟩
    simp only [vl_tmp] at h2
    have hx : (lst w)[j]? = some (lst w)[j] := List.getElem?_eq_getElem hj
    have ht : (lst w).take (j + 1) = (lst w).take j ++ [(lst w)[j]] := (List.take_append_getElem hj).symm
    have hLx := hw.2 _ (List.getElem_mem hj)
    have hns := noneAt_snoc (lst l) ((lst w).take j) (lst w)[j]
    rw [← ht, g3, Bool.false_or] at hns
    have hno : noneAt (lst l) ((lst w).take (j + 1)) = true → noneAt (lst l) (lst w) = true := noneAt_take
    generalize (lst w)[j] = x at *
    have f51' := f51 l x.c x.id (lastT (lst l)) h
    have hth : thB (lst l) x.c x.id (lastT (lst l)) = isB (lst l) (key x) := by unfold thB; rw [filter_last hk]; rfl
    rw [hth] at f51'
    have hc := g5.cells
    have hap : oL ((((lst l) ++ ((lst w).take (j + 1)).map (mkF ts)).map cpF).map faV) = appO (oL ((((lst l) ++ ((lst w).take j).map (mkF ts)).map cpF).map faV)) [.agg [.int .u64 ts, .int .i64 x.c, .int .u64 x.id, .bool x.g, slV 1 i32V (cp x.v)]] := by
      rw [appO_oL, ht]; simp [mkF, cpF, faV_eq]
    have hlen : (((((lst l) ++ ((lst w).take j).map (mkF ts)).map cpF).map faV)).length ≤ 4000 := by
      simp only [List.length_map, List.length_append, List.length_take]; omega
    obtain ⟨σ1, hσ1⟩ : ∃ σ1, σ1 = upd (upd σ n (some (.row 4 [.agg [.int .i64 0, .int .u64 0, .bool false, .nilS]]))) n (some (.row 4 [.agg [.int .i64 x.c, .int .u64 x.id, .bool x.g, slV 1 i32V x.v]])) := ⟨_, rfl⟩
    have so : ∀ i, i < n → σ1 i = σ i := fun i hi => by rw [hσ1, upd_ne (by omega), upd_ne (by omega)]
    have sn : σ1 n = some (.row 4 [.agg [.int .i64 x.c, .int .u64 x.id, .bool x.g, slV 1 i32V x.v]]) := by rw [hσ1, upd_self]
    obtain ⟨σ2, hσ2⟩ : ∃ σ2, σ2 = upd σ1 (n + 1) (some (.row 4 [.agg [.int .i64 x.c, .int .u64 x.id, .bool x.g, slV 1 i32V x.v]])) := ⟨_, rfl⟩
    have sn2 : σ2 (n + 1) = some (.row 4 [.agg [.int .i64 x.c, .int .u64 x.id, .bool x.g, slV 1 i32V x.v]]) := by rw [hσ2, upd_self]
    have f55' := c55 (n := n + 2) hLx sn2
    obtain ⟨σ3, hσ3⟩ : ∃ σ3, σ3 = dropL σ2 [n + 1] := ⟨_, rfl⟩
    have so3 : ∀ i, i < n → σ3 i = σ i := fun i hi => by
      rw [hσ3]; unfold dropL; rw [if_neg (by simp; omega), hσ2, upd_ne (by omega), so i hi]
    have y0 : ∀ hid, hide σ1 (n + 1) (n + 1) hid n = σ1 n := fun hid => hide_low _ _ _ _ (by omega) (Nat.le_refl _)
    obtain ⟨B, hB⟩ : ∃ B, B = (x.g && !isB (lst l) (key x)) := ⟨_, rfl⟩
    rw [← hB] at hns
    cases hg : x.g
    · rw [hg] at hσ1 hσ2 sn sn2 f55'
      simp +contextual -implicitDefEqProofs (maxSteps := 2000000) only [↓wP, wQ, wQ1, wQ2, wQ3, wR, boxE, partsOf, ↓reduceIte, Nat.reduceEqDiff, Nat.reduceAdd, Nat.reduceSub, Nat.reduceLeDiff, Nat.reduceLT, Nat.reduceMul, reduceCtorEq, Int.reduceBNe, Int.reduceBEq, Int.reduceLT, Int.reduceLE, Int.reduceGT, h1, h2, g0, g1, g2, g4, hx, wrV_eq, hg, ← hσ1, sn, ← hσ2, sn2, f55', ← hσ3]
      have tail0 : True := trivial
      refine stepW_appS (us := [.agg [.int .u64 ts, .int .i64 x.c, .int .u64 x.id, .bool false, slV 1 i32V (cp x.v)]]) (S' := fun _ => True) (g5.loc (S' := fun i => i < n) (fun i hi => by rw [upd_ne (by omega)]; exact so3 i hi) (fun _ hi => hi)) (fun i hi => by omega) (fun _ _ => trivial) trivial (FzL.trees (fun y hy => by rw [List.mem_singleton] at hy; subst hy; simp [Tr, Tr_slV]) (fun y hy c hc => by
        rw [List.mem_singleton] at hy; subst hy
        simp only [V.cells, List.mem_cons, List.not_mem_nil, or_false] at hc
        rcases hc with rfl | rfl | rfl | rfl | rfl
        · rfl
        · rfl
        · rfl
        · rfl
        · exact Tr_slV _ _ _ _)) ?_ (fun v' σ' n' q1 q2 q3 q4 => ?_)
      · rw [lst_oL]; unfold LIM; simp only [List.length_cons, List.length_nil]; omega
      · simp +contextual -implicitDefEqProofs (maxSteps := 2000000) only [↓wP, wQ, wQ1, wQ2, wQ3, wR, boxE, partsOf, ↓reduceIte, Nat.reduceEqDiff, Nat.reduceAdd, Nat.reduceSub, Nat.reduceLeDiff, Nat.reduceLT, Nat.reduceMul, reduceCtorEq, Int.reduceBNe, Int.reduceBEq, Int.reduceLT, Int.reduceLE, Int.reduceGT, h1, h2, g0, g1, g2, q1.cells]
        rw [hap, hg, hns, show B = false by rw [hB, hg]; rfl]
        exact ⟨rfl, _, rfl, q1.loc (fun _ _ => rfl) (fun i hi => hi.2)⟩
    · rw [hg] at hσ1 hσ2 sn sn2 f55'
      cases hb : isB (lst l) (key x)
      · rw [hb] at f51'
        have hE4 : E = 4 := by rw [hE, if_pos (hno (by rw [hns, hB, hg, hb]; rfl))]
        have hL0 : L = [] := by rw [hL, hE4]; rfl
        simp +contextual -implicitDefEqProofs (maxSteps := 2000000) only [↓wP, wQ, wQ1, wQ2, wQ3, wR, boxE, partsOf, ↓reduceIte, Nat.reduceEqDiff, Nat.reduceAdd, Nat.reduceSub, Nat.reduceLeDiff, Nat.reduceLT, Nat.reduceMul, reduceCtorEq, Int.reduceBNe, Int.reduceBEq, Int.reduceLT, Int.reduceLE, Int.reduceGT, h1, h2, g0, g1, g2, g4, hx, wrV_eq, hg, ← hσ1, sn, y0, f26', f51']
        rw [hE4, hL0]; rfl
      rw [hb] at f51'
      simp +contextual -implicitDefEqProofs (maxSteps := 2000000) only [↓wP, wQ, wQ1, wQ2, wQ3, wR, boxE, partsOf, ↓reduceIte, Nat.reduceEqDiff, Nat.reduceAdd, Nat.reduceSub, Nat.reduceLeDiff, Nat.reduceLT, Nat.reduceMul, reduceCtorEq, Int.reduceBNe, Int.reduceBEq, Int.reduceLT, Int.reduceLE, Int.reduceGT, h1, h2, g0, g1, g2, g4, hx, wrV_eq, hg, ← hσ1, sn, y0, f26', f51', ← hσ2, sn2, f55', ← hσ3]
      refine stepW_appS (us := [.agg [.int .u64 ts, .int .i64 x.c, .int .u64 x.id, .bool true, slV 1 i32V (cp x.v)]]) (S' := fun _ => True) (g5.loc (S' := fun i => i < n) (fun i hi => by rw [upd_ne (by omega)]; exact so3 i hi) (fun _ hi => hi)) (fun i hi => by omega) (fun _ _ => trivial) trivial (FzL.trees (fun y hy => by rw [List.mem_singleton] at hy; subst hy; simp [Tr, Tr_slV]) (fun y hy c hc => by
        rw [List.mem_singleton] at hy; subst hy
        simp only [V.cells, List.mem_cons, List.not_mem_nil, or_false] at hc
        rcases hc with rfl | rfl | rfl | rfl | rfl
        · rfl
        · rfl
        · rfl
        · rfl
        · exact Tr_slV _ _ _ _)) ?_ (fun v' σ' n' q1 q2 q3 q4 => ?_)
      · rw [lst_oL]; unfold LIM; simp only [List.length_cons, List.length_nil]; omega
      · simp +contextual -implicitDefEqProofs (maxSteps := 2000000) only [↓wP, wQ, wQ1, wQ2, wQ3, wR, boxE, partsOf, ↓reduceIte, Nat.reduceEqDiff, Nat.reduceAdd, Nat.reduceSub, Nat.reduceLeDiff, Nat.reduceLT, Nat.reduceMul, reduceCtorEq, Int.reduceBNe, Int.reduceBEq, Int.reduceLT, Int.reduceLE, Int.reduceGT, h1, h2, g0, g1, g2, q1.cells]
        rw [hap, hg, hns, show B = false by rw [hB, hg, hb]; rfl]
        exact ⟨rfl, _, rfl, q1.loc (fun _ _ => rfl) (fun i hi => hi.2)⟩
  · intro env σ n ⟨g0, g1, g2, g3, v, g4, g5⟩ h1 h2
    rw [List.take_length] at g3 g5
    rw [if_neg (by rw [g3]; decide)] at hE
    have hfr := g5.frz
    have hle := g5.lenE
    have r52' := r52 (oL ((lst l ++ (lst w).map (mkF ts)).map cpF)) ⟨by rw [lst_oL]; simp only [List.length_map, List.length_append]; omega, fun f hf => by
      rw [lst_oL] at hf
      obtain ⟨f, hf', rfl⟩ := List.mem_map.1 hf
      unfold Sm
      show (lst f.w.v).length < _
      rcases List.mem_append.1 hf' with hf | hf
      · have := h.2 f hf; omega
      · obtain ⟨x, hx, rfl⟩ := List.mem_map.1 hf
        have := hw.2 x hx
        show (lst x.v).length < _
        omega⟩
    rw [lst_oL, dimB_cp] at r52'
    rw [slV_oL] at hfr
    rw [lst_oL, List.length_map, List.length_map] at hle
    cases hd : dimB (lst l ++ (lst w).map (mkF ts))
    · rw [hd] at r52' hE
      rw [if_pos rfl] at hE
      have hL0 : L = [] := by rw [hL, hE]; rfl
      simp +contextual -implicitDefEqProofs (maxSteps := 2000000) only [↓wP, wQ, wQ1, wQ2, wQ3, wR, boxE, partsOf, ↓reduceIte, Nat.reduceEqDiff, Nat.reduceAdd, Nat.reduceSub, Nat.reduceLeDiff, Nat.reduceLT, Nat.reduceMul, reduceCtorEq, Int.reduceBNe, Int.reduceBEq, Int.reduceLT, Int.reduceLE, Int.reduceGT, g4, callE_eq hm52, hfr, r52']
      rw [hE, hL0]; rfl
    · rw [hd] at r52' hE
      rw [if_neg (by decide)] at hE
      by_cases hn : 2000 < (lst l ++ (lst w).map (mkF ts)).length
      · have hn' : (2000 : Int) < ((lst l ++ (lst w).map (mkF ts)).length : Int) := by omega
        rw [if_pos hn] at hE
        have hL0 : L = [] := by rw [hL, hE]; rfl
        simp +contextual -implicitDefEqProofs (maxSteps := 2000000) only [↓wP, wQ, wQ1, wQ2, wQ3, wR, boxE, partsOf, ↓reduceIte, Nat.reduceEqDiff, Nat.reduceAdd, Nat.reduceSub, Nat.reduceLeDiff, Nat.reduceLT, Nat.reduceMul, reduceCtorEq, Int.reduceBNe, Int.reduceBEq, Int.reduceLT, Int.reduceLE, Int.reduceGT, g4, callE_eq hm52, hfr, r52', hle, hn']
        rw [hE, hL0]; rfl
      · have hn' : ¬ (2000 : Int) < ((lst l ++ (lst w).map (mkF ts)).length : Int) := by omega
        rw [if_neg hn] at hE
        rw [hE, if_pos rfl] at hL
        have hfr2 := frz_less 11 _ _ hfr (ht_fa _ 8)
        simp +contextual -implicitDefEqProofs (maxSteps := 2000000) only [↓wP, wQ, wQ1, wQ2, wQ3, wR, boxE, partsOf, ↓reduceIte, Nat.reduceEqDiff, Nat.reduceAdd, Nat.reduceSub, Nat.reduceLeDiff, Nat.reduceLT, Nat.reduceMul, reduceCtorEq, Int.reduceBNe, Int.reduceBEq, Int.reduceLT, Int.reduceLE, Int.reduceGT, g4, callE_eq hm52, hfr, hfr2, r52', hle, hn']
        rw [hE, hL]
  · simp +contextual -implicitDefEqProofs (maxSteps := 2000000) only [↓wP, wQ, wQ1, wQ2, wQ3, wR, boxE, partsOf, ↓reduceIte, Nat.reduceEqDiff, Nat.reduceAdd, Nat.reduceSub, Nat.reduceLeDiff, Nat.reduceLT, Nat.reduceMul, reduceCtorEq, Int.reduceBNe, Int.reduceBEq, Int.reduceLT, Int.reduceLE, Int.reduceGT]
    rw [show noneAt (lst l) [] = false from rfl]
    refine ⟨rfl, _, rfl, ?_⟩
    exact hb0.loc (fun _ _ => rfl) (fun i hi => hi.2)
end Go.Q.S18
end

section
/- Add: facts, and those of writes. -/
set_option linter.unusedSimpArgs false
set_option linter.unusedVariables false
namespace Go.Q.S18
open Go.Q
def addE (l : List Fa) (ts : Int) (w : List Wr) : Int := if rightF l = false then 280 else if rightW w = false then 260 else refE l ts w
def addO (l : Option (List Fa)) (ts : Int) (w : List Wr) : Option (List Fa) := if addE (lst l) ts w = 0 then appO l (w.map (mkF ts)) else none
theorem t48 (o : Option (List Fa)) (h : FitF (lst o)) (σ : Sto) (n lk : Nat) : ∃ v σ' n', callE T true 48 [slV 5 faV o] σ n lk = some (v, σ', n') ∧ Pl σ' n n' 5 v (o.map (List.map faV)) ∧ n ≤ n' ∧ ∀ i, i < n → σ' i = σ i := by
  cases o with
  | none => exact ⟨_, _, _, f48n true σ n lk, rfl, Nat.le_refl _, fun _ _ => rfl⟩
  | some L => exact ⟨_, _, _, f48 L (by have := h.1; rw [lst_some] at this; unfold LIM; omega) true σ n lk, ⟨n, rfl, by rw [upd_self], Nat.le_refl _, by omega⟩, by omega, fun i hi => upd_ne (by omega)⟩
theorem r50' (o : Option (List Fa)) (h : FitO o) (ha : AllS (lst o)) : res T 50 [slV 5 faV o] = some (ownF o) := by
  cases o with
  | none => exact r50n
  | some L => exact r50 L h ha
theorem flatL_all : ∀ {xs : List V}, (∀ x ∈ xs, flat x = true) → flatL xs = true
  | [], _ => rfl
  | x :: xs, h => by
    show (flat x && flatL xs) = true
    rw [h x List.mem_cons_self, flatL_all (fun y hy => h y (List.mem_cons_of_mem _ hy))]; rfl
theorem flat_ownF (o : Option (List Fa)) : flat (ownF o) = true := by
  cases o with
  | none => rfl
  | some L =>
    show flatL _ = true
    refine flatL_all (fun x hx => ?_)
    obtain ⟨f, -, rfl⟩ := List.mem_map.1 hx
    show (true && (true && (true && (true && (flatL _ && true))))) = true
    rw [flatL_all (fun y hy => by obtain ⟨t, -, rfl⟩ := List.mem_map.1 hy; rfl)]
    rfl
theorem callE_flat {f : Nat} {args ts : List V} {r : V} {σ : Sto} (hm : T.mode f ≠ .raw) (hts : args.mapM (frz σ 12) = some ts) (hr : res T f ts = some r) (hf : flat r = true) (fs : Bool) (n lk : Nat) :
    callE T fs f args σ n lk = some (thaw σ n r) := by
  rw [callE_eq hm, hts, callR_some, hr, retE_some, backE_flat hf]
theorem lst_map {α β : Type} (f : α → β) (o : Option (List α)) : lst (o.map (List.map f)) = (lst o).map f := by cases o <;> rfl
theorem appO_some {α : Type} (o : Option (List α)) (x : α) (xs : List α) : appO o (xs ++ [x]) = some (lst o ++ (xs ++ [x])) := by
  cases o with
  | none => cases xs <;> rfl
  | some l => rfl
theorem r13 (l : Option (List Fa)) (ts : Int) (w : Option (List Wr)) (h : FitF (lst l)) (ha : AllS (lst l)) (hw : FitW (lst w)) (haw : ∀ x ∈ lst w, x.v = some (lst x.v)) : res T 13 [slV 5 faV l, .int .u64 ts, slV 4 wrV w] = some (.tup [ownF (addO l ts (lst w)), .int .i64 (addE (lst l) ts (lst w))]) := by
  refine run_res (run_own (fn := g13) rfl rfl (by decide) ?_)
  simp only [g13, b13, oO, oN, mV, lD, gO, pP, qQ, cI, aR]
  have f24' := f24 l h.sm
  have hsw : SmW w := ⟨by have := hw.1; omega, fun x hx => by have := hw.2 x hx; unfold Sm; omega⟩
  have f45' := f45 w hsw
  have f46' := f46 l h.sm.1
  have hl := h.1
  have hl2 := hw.1
  have hm44 : T.mode 44 ≠ .raw := by decide
  have hm49 : T.mode 49 ≠ .raw := by decide
  have hm50 : T.mode 50 ≠ .raw := by decide
  obtain ⟨E, hE⟩ : ∃ E, E = addE (lst l) ts (lst w) := ⟨_, rfl⟩
  obtain ⟨L, hL⟩ : ∃ L, L = addO l ts (lst w) := ⟨_, rfl⟩
  rw [← hE, ← hL]
  unfold addO at hL
  rw [← hE] at hL
  unfold addE at hE
  have bad : ∀ e : Int, e ≠ 0 → E = e → L = none := fun e h0 he => by rw [hL, if_neg (by rw [he]; exact h0)]
  have nix : ∀ e : Int, e ≠ 0 → E = e → giv Sto.empty 12 (.tup [.nilS, .int .i64 e]) = some (.tup [ownF L, .int .i64 E]) := fun e h0 he => by rw [bad e h0 he, he]; rfl
  have r44' := fun a b => r44 a b
  cases hrf : rightF (lst l)
  · rw [hrf] at hE f24'
    rw [if_pos rfl] at hE
    rw [if_neg (by decide)] at f24'
    have r := r44 280 (if rightW (lst w) = true then 0 else 260)
    rw [if_neg (show ¬ (280 : Int) = 0 by decide)] at r
    have z0 : ((280 : Int) != 0) = true := rfl
    simp +contextual -implicitDefEqProofs (maxSteps := 2000000) only [↓wP, wQ, wQ1, wQ2, wQ3, wR, boxE, partsOf, ↓reduceIte, Nat.reduceEqDiff, Nat.reduceAdd, Nat.reduceSub, Nat.reduceLeDiff, Nat.reduceLT, Nat.reduceMul, reduceCtorEq, Int.reduceBNe, Int.reduceBEq, Int.reduceLT, Int.reduceLE, Int.reduceGT, f24', f45', callE_eq hm44, frz_rf, rch_rf, r, z0]
    rw [bad 280 (by decide) hE, hE]
    exact giv_pair (o := none) (m := 0) (n := 0) rfl 280
  rw [hrf] at hE f24'
  rw [if_neg (by decide)] at hE
  rw [if_pos rfl] at f24'
  cases hrw : rightW (lst w)
  · rw [hrw] at hE f45'
    rw [if_pos rfl] at hE
    rw [if_neg (by decide)] at f45'
    have r := r44 0 260
    rw [if_pos rfl] at r
    have z0 : ((260 : Int) != 0) = true := rfl
    simp +contextual -implicitDefEqProofs (maxSteps := 2000000) only [↓wP, wQ, wQ1, wQ2, wQ3, wR, boxE, partsOf, ↓reduceIte, Nat.reduceEqDiff, Nat.reduceAdd, Nat.reduceSub, Nat.reduceLeDiff, Nat.reduceLT, Nat.reduceMul, reduceCtorEq, Int.reduceBNe, Int.reduceBEq, Int.reduceLT, Int.reduceLE, Int.reduceGT, f24', f45', callE_eq hm44, frz_rf, rch_rf, r, z0]
    rw [bad 260 (by decide) hE, hE]
    exact giv_pair (o := none) (m := 0) (n := 0) rfl 260
  rw [hrw] at hE f45'
  rw [if_neg (by decide), refE_eq] at hE
  rw [if_pos rfl] at f45'
  have r := r44 0 0
  rw [if_pos rfl] at r
  have z0 : ((0 : Int) != 0) = false := rfl
  by_cases b1 : ts ≤ lastT (lst l)
  · rw [if_pos (Or.inl b1)] at hE
    simp +contextual -implicitDefEqProofs (maxSteps := 2000000) only [↓wP, wQ, wQ1, wQ2, wQ3, wR, boxE, partsOf, ↓reduceIte, Nat.reduceEqDiff, Nat.reduceAdd, Nat.reduceSub, Nat.reduceLeDiff, Nat.reduceLT, Nat.reduceMul, reduceCtorEq, Int.reduceBNe, Int.reduceBEq, Int.reduceLT, Int.reduceLE, Int.reduceGT, f24', f45', f46', callE_eq hm44, frz_rf, rch_rf, r, z0, b1]
    rw [bad 181 (by decide) hE, hE]
    exact giv_pair (o := none) (m := 0) (n := 0) rfl 181
  by_cases b2 : 1099511627776 < ts
  · rw [if_pos (Or.inr b2)] at hE
    simp +contextual -implicitDefEqProofs (maxSteps := 2000000) only [↓wP, wQ, wQ1, wQ2, wQ3, wR, boxE, partsOf, ↓reduceIte, Nat.reduceEqDiff, Nat.reduceAdd, Nat.reduceSub, Nat.reduceLeDiff, Nat.reduceLT, Nat.reduceMul, reduceCtorEq, Int.reduceBNe, Int.reduceBEq, Int.reduceLT, Int.reduceLE, Int.reduceGT, f24', f45', f46', callE_eq hm44, frz_rf, rch_rf, r, z0, b1, b2]
    rw [bad 181 (by decide) hE, hE]
    exact giv_pair (o := none) (m := 0) (n := 0) rfl 181
  rw [if_neg (by omega)] at hE
  simp +contextual -implicitDefEqProofs (maxSteps := 2000000) only [↓wP, wQ, wQ1, wQ2, wQ3, wR, boxE, partsOf, ↓reduceIte, Nat.reduceEqDiff, Nat.reduceAdd, Nat.reduceSub, Nat.reduceLeDiff, Nat.reduceLT, Nat.reduceMul, reduceCtorEq, Int.reduceBNe, Int.reduceBEq, Int.reduceLT, Int.reduceLE, Int.reduceGT, f24', f45', f46', callE_eq hm44, frz_rf, rch_rf, r, z0, b1, b2]
  refine WC_cutB (fun env σ n => env 0 = slV 5 faV l ∧ env 1 = .int .u64 ts ∧ env 2 = slV 4 wrV w ∧ env 9 = .mp 1 ∧ 2 ≤ n ∧ ∃ Lm clk, MOk Lm clk ∧ σ 1 = some (.map (ens kyV bV Lm) clk) ∧ ∀ k, (vw Lm k).getD false = isB (lst l) k) ?_ ?_
  · refine WC_for (lst l).length 0 (fun (j : Nat) env σ n => env 0 = slV 5 faV l ∧ env 1 = .int .u64 ts ∧ env 2 = slV 4 wrV w ∧ env 33 = slV 5 faV l ∧ env 9 = .mp 1 ∧ 2 ≤ n ∧ ∃ Lm clk, MOk Lm clk ∧ σ 1 = some (.map (ens kyV bV Lm) clk) ∧ ∀ k, (vw Lm k).getD false = isB ((lst l).take j) k) (by omega) (by decide) (by decide) (fun _ _ => rfl) (fun _ _ _ => rfl) ?_ ?_ _ _ _ rfl rfl ?_
    · intro j env σ n hj h1 h2 ⟨g0, g1, g2, g3, g4, g5, Lm, clk, m1, m2, m3⟩
      simp only [vl_tmp] at h2
      have hx : (lst l)[j]? = some (lst l)[j] := List.getElem?_eq_getElem hj
      have hds := isB_snoc ((lst l).take j) (lst l)[j]
      rw [List.take_append_getElem hj] at hds
      generalize (lst l)[j] = x at *
      obtain ⟨σ1, hσ1⟩ : ∃ σ1, σ1 = upd (upd σ n (some (.row 5 [.agg [.int .u64 0, .int .i64 0, .int .u64 0, .bool false, .nilS]]))) n (some (.row 5 [.agg [.int .u64 x.ts, .int .i64 x.w.c, .int .u64 x.w.id, .bool x.w.g, slV 1 i32V x.w.v]])) := ⟨_, rfl⟩
      have so : ∀ i, i < n → σ1 i = σ i := fun i hi => by rw [hσ1, upd_ne (by omega), upd_ne (by omega)]
      have sn : σ1 n = some (.row 5 [.agg [.int .u64 x.ts, .int .i64 x.w.c, .int .u64 x.w.id, .bool x.w.g, slV 1 i32V x.w.v]]) := by rw [hσ1, upd_self]
      have s0 : σ1 1 = some (.map (ens kyV bV Lm) clk) := by rw [so 1 (by omega)]; exact m2
      have pu := mupd_ens (ke := kyV) (ve := bV) (lk := 0) keyK m1 s0 (Nat.zero_le _) (key x.w) (!x.w.g) (n + 1)
      have fk := f47 x.w
      rw [wrV_eq] at fk
      simp only [bV] at pu
      simp +contextual -implicitDefEqProofs (maxSteps := 2000000) only [↓wP, wQ, wQ1, wQ2, wQ3, wR, boxE, partsOf, ↓reduceIte, Nat.reduceEqDiff, Nat.reduceAdd, Nat.reduceSub, Nat.reduceLeDiff, Nat.reduceLT, Nat.reduceMul, reduceCtorEq, Int.reduceBNe, Int.reduceBEq, Int.reduceLT, Int.reduceLE, Int.reduceGT, h1, h2, g0, g1, g2, g3, g4, hx, faV_eq, ← hσ1, sn, s0, pu, fk]
      refine ⟨by omega, _, _, mput_ok m1 _ _, rfl, fun k => ?_⟩
      rw [vw_mput, hds]
      by_cases e : k = key x.w
      · rw [if_pos e, if_pos e.symm]; rfl
      · rw [if_neg e, if_neg (fun h => e h.symm)]; exact m3 k
    · intro env σ n ⟨g0, g1, g2, g3, g4, g5, Lm, clk, m1, m2, m3⟩ h1 h2
      rw [List.take_length] at m3
      exact ⟨rfl, rfl, g0, g1, g2, g4, g5, Lm, clk, m1, m2, m3⟩
    · exact ⟨rfl, rfl, rfl, rfl, rfl, Nat.le_refl _, [], 0, MOk.nil, rfl, fun k => rfl⟩
  · intro env σ n ⟨g0, g1, g2, g4, g5, Lm, clk, m1, m2, m3⟩
    obtain ⟨cv, σc, nc, t1, t2, t3, t4⟩ := t48 l h σ n 0
    simp +contextual -implicitDefEqProofs (maxSteps := 2000000) only [↓wP, wQ, wQ1, wQ2, wQ3, wR, boxE, partsOf, ↓reduceIte, Nat.reduceEqDiff, Nat.reduceAdd, Nat.reduceSub, Nat.reduceLeDiff, Nat.reduceLT, Nat.reduceMul, reduceCtorEq, Int.reduceBNe, Int.reduceBEq, Int.reduceLT, Int.reduceLE, Int.reduceGT, g0, g1, g2, g4, t1]
    have m2' : σc 1 = some (.map (ens kyV bV Lm) clk) := by rw [t4 1 (by omega)]; exact m2
    refine WC_for (lst w).length 0 (fun (j : Nat) env σ n => env 1 = .int .u64 ts ∧ env 9 = .mp 1 ∧ env 50 = slV 4 wrV w ∧ 2 ≤ n ∧ σ 1 = some (.map (ens kyV bV Lm) clk) ∧ noneAt (lst l) ((lst w).take j) = false ∧ ∃ v, env 12 = v ∧ Pl σ 2 n 5 v ((appO l (((lst w).take j).map (mkF ts))).map (List.map faV))) (by omega) (by decide) (by decide) (fun _ _ => rfl) (fun _ _ _ => rfl) ?_ ?_ _ _ _ rfl rfl ?_
    · clear g0 g1 g2 g4 g5 m2 m2' t1 t2 t3 t4
      intro j env σ n hj h1 h2 ⟨g1, g2, g3, g4, m2, g5, v, g6, g7⟩
      simp only [vl_tmp] at h2
      have hx : (lst w)[j]? = some (lst w)[j] := List.getElem?_eq_getElem hj
      have ht : (lst w).take (j + 1) = (lst w).take j ++ [(lst w)[j]] := (List.take_append_getElem hj).symm
      have hns := noneAt_snoc (lst l) ((lst w).take j) (lst w)[j]
      rw [← ht, g5, Bool.false_or] at hns
      have hno : noneAt (lst l) ((lst w).take (j + 1)) = true → noneAt (lst l) (lst w) = true := noneAt_take
      generalize (lst w)[j] = x at *
      have hc := g7.cells
      have hsp := spl g7
      have hap : (appO l (((lst w).take (j + 1)).map (mkF ts))).map (List.map faV) = some ((lst ((appO l (((lst w).take j).map (mkF ts))).map (List.map faV))) ++ [.agg [.int .u64 ts, .int .i64 x.c, .int .u64 x.id, .bool x.g, slV 1 i32V x.v]]) := by
        rw [ht, List.map_append, List.map_cons, List.map_nil, appO_some, Option.map_some, ← List.append_assoc, List.map_append, ← lst_appO]
        cases appO l (((lst w).take j).map (mkF ts)) <;> rfl
      have hlen : (lst ((appO l (((lst w).take j).map (mkF ts))).map (List.map faV))).length ≤ 2000000 := by
        rw [lst_map, List.length_map, lst_appO, List.length_append, List.length_map, List.length_take]; omega
      obtain ⟨σ1, hσ1⟩ : ∃ σ1, σ1 = upd (upd σ n (some (.row 4 [.agg [.int .i64 0, .int .u64 0, .bool false, .nilS]]))) n (some (.row 4 [.agg [.int .i64 x.c, .int .u64 x.id, .bool x.g, slV 1 i32V x.v]])) := ⟨_, rfl⟩
      have so : ∀ i, i < n → σ1 i = σ i := fun i hi => by rw [hσ1, upd_ne (by omega), upd_ne (by omega)]
      have sn : σ1 n = some (.row 4 [.agg [.int .i64 x.c, .int .u64 x.id, .bool x.g, slV 1 i32V x.v]]) := by rw [hσ1, upd_self]
      have s1 : σ1 1 = some (.map (ens kyV bV Lm) clk) := by rw [so 1 (by omega)]; exact m2
      have hmg : mgetE false (.agg [.int, .int]) (.bool false) (some (ens kyV bV Lm)) (kyV (key x)) = some (.bool (isB (lst l) (key x))) := by
        rw [mget_ens (ve := bV) keyK false (.bool false) (key x) Lm, ← m3 (key x)]
        cases vw Lm (key x) <;> rfl
      have fk := f47 x
      rw [wrV_eq] at fk
      have hv1 : ∀ off len s, v ≠ .ref 1 off len s := by
        intro off len s e
        subst e
        cases ho' : (appO l (((lst w).take j).map (mkF ts))).map (List.map faV) with
        | none => rw [ho'] at g7; cases g7
        | some xs => rw [ho'] at g7; obtain ⟨i, e, -, e2, -⟩ := g7; simp only [V.ref.injEq] at e; omega
      have go : ∀ (Q : Prop), Q → Q := fun Q h => h
      cases hg : x.g
      all_goals rw [hg] at hσ1 sn fk hns hap
      · simp +contextual -implicitDefEqProofs (maxSteps := 2000000) only [↓wP, wQ, wQ1, wQ2, wQ3, wR, boxE, partsOf, ↓reduceIte, Nat.reduceEqDiff, Nat.reduceAdd, Nat.reduceSub, Nat.reduceLeDiff, Nat.reduceLT, Nat.reduceMul, reduceCtorEq, Int.reduceBNe, Int.reduceBEq, Int.reduceLT, Int.reduceLE, Int.reduceGT, h1, h2, g1, g2, g3, g6, hx, wrV_eq, hg, ← hσ1, sn]
        refine stepW_app1 (m := 2) (n0 := n) (σ0 := σ) g7 (fun i a1 a2 => ?_) (by omega) (by omega) (Nat.zero_le _) ?_ (fun _ σ3 a1 a2 => ?_)
        · rw [upd_ne (by omega), so i a2]
        · unfold LIM; omega
        · have m2' : σ3 1 = some (.map (ens kyV bV Lm) clk) := by rw [a2 1 (by omega) hv1, upd_ne (by omega)]; exact s1
          simp +contextual -implicitDefEqProofs (maxSteps := 2000000) only [↓wP, wQ, wQ1, wQ2, wQ3, wR, boxE, partsOf, ↓reduceIte, Nat.reduceEqDiff, Nat.reduceAdd, Nat.reduceSub, Nat.reduceLeDiff, Nat.reduceLT, Nat.reduceMul, reduceCtorEq, Int.reduceBNe, Int.reduceBEq, Int.reduceLT, Int.reduceLE, Int.reduceGT, h1, h2, g1, g2, g3, hc, hsp]
          rw [hns, hap]
          exact ⟨m2', by simp, _, rfl, a1⟩
      · cases hb : isB (lst l) (key x)
        · rw [hb] at hmg hns
          have hE4 : E = 4 := by rw [hE, if_pos (hno (by rw [hns]; rfl))]
          simp +contextual -implicitDefEqProofs (maxSteps := 2000000) only [↓wP, wQ, wQ1, wQ2, wQ3, wR, boxE, partsOf, ↓reduceIte, Nat.reduceEqDiff, Nat.reduceAdd, Nat.reduceSub, Nat.reduceLeDiff, Nat.reduceLT, Nat.reduceMul, reduceCtorEq, Int.reduceBNe, Int.reduceBEq, Int.reduceLT, Int.reduceLE, Int.reduceGT, h1, h2, g1, g2, g3, g6, hx, wrV_eq, hg, ← hσ1, sn, s1, fk, hmg]
          rw [bad 4 (by decide) hE4, hE4]
          exact giv_pair (o := none) (m := 0) (n := 0) rfl 4
        · rw [hb] at hmg hns
          simp +contextual -implicitDefEqProofs (maxSteps := 2000000) only [↓wP, wQ, wQ1, wQ2, wQ3, wR, boxE, partsOf, ↓reduceIte, Nat.reduceEqDiff, Nat.reduceAdd, Nat.reduceSub, Nat.reduceLeDiff, Nat.reduceLT, Nat.reduceMul, reduceCtorEq, Int.reduceBNe, Int.reduceBEq, Int.reduceLT, Int.reduceLE, Int.reduceGT, h1, h2, g1, g2, g3, g6, hx, wrV_eq, hg, ← hσ1, sn, s1, fk, hmg]
          refine stepW_app1 (m := 2) (n0 := n) (σ0 := σ) g7 (fun i a1 a2 => ?_) (by omega) (by omega) (Nat.zero_le _) ?_ (fun _ σ3 a1 a2 => ?_)
          · rw [upd_ne (by omega), so i a2]
          · unfold LIM; omega
          · have m2' : σ3 1 = some (.map (ens kyV bV Lm) clk) := by rw [a2 1 (by omega) hv1, upd_ne (by omega)]; exact s1
            simp +contextual -implicitDefEqProofs (maxSteps := 2000000) only [↓wP, wQ, wQ1, wQ2, wQ3, wR, boxE, partsOf, ↓reduceIte, Nat.reduceEqDiff, Nat.reduceAdd, Nat.reduceSub, Nat.reduceLeDiff, Nat.reduceLT, Nat.reduceMul, reduceCtorEq, Int.reduceBNe, Int.reduceBEq, Int.reduceLT, Int.reduceLE, Int.reduceGT, h1, h2, g1, g2, g3, hc, hsp]
            rw [hns, hap]
            exact ⟨m2', by simp, _, rfl, a1⟩
    · clear g0 g1 g2 g4 g5 m2 m2' t1 t2 t3 t4
      intro env σ n ⟨g1', g2', g3', g4', m2, g1, v, g2, g3⟩ h1 h2
      rw [List.take_length] at g1 g3
      rw [if_neg (by rw [g1]; decide)] at hE
      obtain ⟨O, hO⟩ : ∃ O, O = appO l ((lst w).map (mkF ts)) := ⟨_, rfl⟩
      have hOl : lst O = lst l ++ (lst w).map (mkF ts) := by rw [hO, lst_appO]
      rw [← hOl] at hE
      rw [← hO] at hL g3
      have hfa : ∀ f ∈ lst O, (lst f.w.v).length ≤ 1000000 ∧ f.w.v = some (lst f.w.v) := fun f hf => by
        rw [hOl] at hf
        rcases List.mem_append.1 hf with hf | hf
        · exact ⟨h.2 f hf, ha f hf⟩
        · obtain ⟨x, hx, rfl⟩ := List.mem_map.1 hf
          exact ⟨hw.2 x hx, haw x hx⟩
      have hOn : (lst O).length ≤ 2000000 := by rw [hOl, List.length_append, List.length_map]; omega
      have hfr := g3.frz (by rw [lst_map]; exact fa_fz.1) (by rw [lst_map]; exact fa_fz.2)
      rw [slV_map] at hfr
      have hle : lenE v = some (.int .i64 ((lst O).length : Int)) := by
        cases hO2 : O with
        | none => rw [hO2] at g3; simp only [Option.map_none, Pl] at g3; subst g3; rfl
        | some xs => rw [hO2] at g3; obtain ⟨i, rfl, -⟩ := g3; rw [lenE_ref, List.length_map]; rfl
      have r49' := r49 O ⟨by omega, fun f hf => by have := (hfa f hf).1; unfold Sm; omega⟩
      have hfm : [v].mapM (frz σ 12) = some [slV 5 faV O] := by simp only [List.mapM_cons, List.mapM_nil, hfr]; rfl
      have f49' := callE_flat hm49 hfm r49' rfl true n 0
      rw [thaw_bool] at f49'
      have f50' := callE_flat hm50 hfm (r50' O ⟨by unfold LIM; omega, fun f hf => by have := (hfa f hf).1; unfold LIM; omega⟩ (fun f hf => (hfa f hf).2)) (flat_ownF O) true n 0
      cases hd : dimB (lst O)
      · rw [hd] at f49' hE
        rw [if_pos rfl] at hE
        simp +contextual -implicitDefEqProofs (maxSteps := 2000000) only [↓wP, wQ, wQ1, wQ2, wQ3, wR, boxE, partsOf, ↓reduceIte, Nat.reduceEqDiff, Nat.reduceAdd, Nat.reduceSub, Nat.reduceLeDiff, Nat.reduceLT, Nat.reduceMul, reduceCtorEq, Int.reduceBNe, Int.reduceBEq, Int.reduceLT, Int.reduceLE, Int.reduceGT, g2, f49']
        rw [bad 151 (by decide) hE, hE]
        exact giv_pair (o := none) (m := 0) (n := 0) rfl 151
      · rw [hd] at f49' hE
        rw [if_neg (by decide)] at hE
        by_cases hn : 2000 < (lst O).length
        · have hn' : (2000 : Int) < ((lst O).length : Int) := by omega
          rw [if_pos hn] at hE
          simp +contextual -implicitDefEqProofs (maxSteps := 2000000) only [↓wP, wQ, wQ1, wQ2, wQ3, wR, boxE, partsOf, ↓reduceIte, Nat.reduceEqDiff, Nat.reduceAdd, Nat.reduceSub, Nat.reduceLeDiff, Nat.reduceLT, Nat.reduceMul, reduceCtorEq, Int.reduceBNe, Int.reduceBEq, Int.reduceLT, Int.reduceLE, Int.reduceGT, g2, f49', hle, hn']
          rw [bad 6 (by decide) hE, hE]
          exact giv_pair (o := none) (m := 0) (n := 0) rfl 6
        · have hn' : ¬ (2000 : Int) < ((lst O).length : Int) := by omega
          rw [if_neg hn] at hE
          rw [hE, if_pos rfl] at hL
          obtain ⟨v', σ', n', q1, q2, q3, q4⟩ := thaw_ownF σ n O
          rw [q1] at f50'
          simp +contextual -implicitDefEqProofs (maxSteps := 2000000) only [↓wP, wQ, wQ1, wQ2, wQ3, wR, boxE, partsOf, ↓reduceIte, Nat.reduceEqDiff, Nat.reduceAdd, Nat.reduceSub, Nat.reduceLeDiff, Nat.reduceLT, Nat.reduceMul, reduceCtorEq, Int.reduceBNe, Int.reduceBEq, Int.reduceLT, Int.reduceLE, Int.reduceGT, g2, f49', hle, hn', f50']
          rw [hE, hL]
          exact giv_pair q2 0
    · simp +contextual -implicitDefEqProofs (maxSteps := 2000000) only [↓wP, wQ, wQ1, wQ2, wQ3, wR, boxE, partsOf, ↓reduceIte, Nat.reduceEqDiff, Nat.reduceAdd, Nat.reduceSub, Nat.reduceLeDiff, Nat.reduceLT, Nat.reduceMul, reduceCtorEq, Int.reduceBNe, Int.reduceBEq, Int.reduceLT, Int.reduceLE, Int.reduceGT, g1, g4]
      refine ⟨by omega, m2', rfl, _, rfl, ?_⟩
      have e : appO l (([] : List Wr).map (mkF ts)) = l := by
        cases l with
        | none => rfl
        | some l => show some (l ++ []) = some l; rw [List.append_nil]
      simp only [List.map_nil] at e
      rw [e]
      cases hl0 : l with
      | none => rw [hl0] at t2; exact t2
      | some l' => rw [hl0] at t2; obtain ⟨i, e1, e2, e3, e4⟩ := t2; exact ⟨i, e1, e2, by omega, e4⟩
end Go.Q.S18
end

section
/- The layer does something. -/
set_option linter.unusedSimpArgs false
set_option linter.unusedVariables false
namespace Go.Q.S18
open Go.Q
def isTrue' : Option Out → Bool
  | some (.val (.bool true)) => true
  | _ => false
theorem isTrue_eq {o : Option Out} (h : isTrue' o = true) : o = some (.val (.bool true)) := by
  unfold isTrue' at h
  split at h
  · rfl
  · cases h
theorem r9 : res T 9 [] = some (.bool true) := by
  have h : isTrue' (exJob T 300 (.pure 9 [])) = true := by decide +kernel
  exact run_res (exJob_sound 300 _ _ (isTrue_eq h))
theorem f9 (fs : Bool) (σ : Sto) (n lk : Nat) : callE T fs 9 [] σ n lk = some (.bool true, σ, n) := callE_tr (by decide) r9 rfl rfl fs σ n lk
end Go.Q.S18
end

section
/- IdealAdds: copies tell the same; what a caller may do with facts of its own. -/
set_option linter.unusedSimpArgs false
set_option linter.unusedVariables false
namespace Go.Q.S18
open Go.Q
theorem isB_cp (l : List Fa) (k : Ky) : isB (l.map cpF) k = isB l k := by unfold isB; rw [List.foldl_map]; rfl
theorem one1_cp (l : List Fa) (i : Nat) (f : Fa) : one1 (l.map cpF) i (cpF f) = one1 l i f := by
  unfold one1
  cases i with
  | zero => rfl
  | succ j =>
    simp only [List.getElem?_map]
    cases l[j]? with
    | none => rfl
    | some p => rfl
theorem okU_cp (l : List Fa) : ∀ n, okU (l.map cpF) n = okU l n
  | 0 => rfl
  | n + 1 => by
    show (okU (l.map cpF) n && _) = (okU l n && _)
    rw [okU_cp l n, List.getElem?_map]
    cases l[n]? with
    | none => rfl
    | some f =>
      show (_ && oneF (l.map cpF) n (cpF f)) = (_ && oneF l n f)
      unfold oneF
      rw [one1_cp, ← List.map_take, isB_cp]
      rfl
theorem rightF_cp (l : List Fa) : rightF (l.map cpF) = rightF l := by unfold rightF; rw [List.length_map, okU_cp, dimB_cp]
theorem lastT_cp (l : List Fa) : lastT (l.map cpF) = lastT l := by
  unfold lastT; rw [List.getLast?_map]
  cases l.getLast? <;> rfl
theorem tsC_cp (c : Cm) (l : List Fa) : tsC c (l.map cpF) = tsC c l := by unfold tsC; rw [lastT_cp]
theorem dimB_app (l m : List Fa) : dimB (l.map cpF ++ m) = dimB (l ++ m) := by
  rw [← dimB_cp (l.map cpF ++ m), ← dimB_cp (l ++ m), List.map_append, List.map_append, List.map_map]
  rfl
theorem refE_cp (l : List Fa) (ts : Int) (w : List Wr) : refE (l.map cpF) ts w = refE l ts w := by
  rw [refE_eq, refE_eq, lastT_cp, dimB_app]
  have : noneAt (l.map cpF) w = noneAt l w := by unfold noneAt; simp only [isB_cp]
  rw [this, List.length_append, List.length_append, List.length_map]
def qF (f : Fa) : Int × Int × Int × Bool × List Int := (f.ts, f.w.c, f.w.id, f.w.g, lst f.w.v)
theorem qF_cp (l : List Fa) : (l.map cpF).map qF = l.map qF := by rw [List.map_map]; rfl
theorem same_q {l m : List Fa} (h : l.map qF = m.map qF) : sameL sameF1 l m = true := sameL_of (q := qF) (fun a b h => by
  unfold qF at h
  simp only [Prod.mk.injEq] at h
  obtain ⟨h1, h2, h3, h4, h5⟩ := h
  unfold sameF1 sameW1
  rw [h1, h2, h3, h4, h5]
  simp) h
theorem same_w (l : List Wr) : sameL sameW1 l l = true := sameL_of (q := fun x : Wr => x) (fun a b h => by subst h; unfold sameW1; simp) rfl
def ShE (σ : Sto) (a b id : Nat) (x : V) : Prop := ∃ t c i g k xs, x = .agg [.int .u64 t, .int .i64 c, .int .u64 i, .bool g, .ref k 0 (List.length xs) 1] ∧ a ≤ k ∧ k < b ∧ k ≠ id ∧ σ k = some (.row 1 (List.map i32V xs)) ∧ List.length xs ≤ 1000
def Shp (σ : Sto) (a b : Nat) (v : V) (N : Nat) : Prop := (v = .nilS ∧ N = 0) ∨ ∃ id rows, v = .ref id 0 N 5 ∧ rows.length = N ∧ σ id = some (.row 5 rows) ∧ a ≤ id ∧ id < b ∧ ∀ x ∈ rows, ShE σ a b id x
theorem ShE.loc {σ σ' : Sto} {a b id : Nat} {x : V} (h : ShE σ a b id x) (hs : ∀ i, a ≤ i → i < b → i ≠ id → σ' i = σ i) : ShE σ' a b id x := by
  obtain ⟨t, c, i, g, k, xs, a1, a2, a3, a4, a5, a6⟩ := h
  exact ⟨t, c, i, g, k, xs, a1, a2, a3, a4, by rw [hs k a2 a3 a4]; exact a5, a6⟩
theorem FChn.shp {σ : Sto} {a b : Nat} {v : V} {o : Option (List Fa)} (h : FChn σ a b v o) (hb : ∀ f ∈ lst o, (lst f.w.v).length ≤ 1000) : Shp σ a b v (lst o).length := by
  cases o with
  | none => exact .inl ⟨h, rfl⟩
  | some L =>
    obtain ⟨id, ids, rfl, h1, h2, h3, h4⟩ := h
    rw [lst_some] at hb ⊢
    refine .inr ⟨id, _, rfl, zip_len h4, h1, (h3 id List.mem_cons_self).1, (h3 id List.mem_cons_self).2, fun x hx => ?_⟩
    obtain ⟨j, hj, rfl⟩ := List.mem_iff_getElem.1 hx
    rw [zip_len h4] at hj
    have hj2 : j < ids.length := by rw [h4.1]; exact hj
    rw [List.getElem_zipWith]
    have hm := List.getElem_mem hj2
    refine ⟨_, _, _, _, ids[j], lst L[j].w.v, rfl, (h3 _ (List.mem_cons_of_mem _ hm)).1, (h3 _ (List.mem_cons_of_mem _ hm)).2, fun e => (List.nodup_cons.1 h2).1 (by rw [← e]; exact hm), h4.2 j _ _ (List.getElem?_eq_getElem hj) (List.getElem?_eq_getElem hj2), hb _ (List.getElem_mem hj)⟩
theorem mem_set {α : Type} {l : List α} {j : Nat} {x y : α} (h : y ∈ l.set j x) : y = x ∨ y ∈ l := by
  rcases List.mem_or_eq_of_mem_set h with h | h
  · exact .inr h
  · exact .inl h
theorem she_ts {σ : Sto} {a b id : Nat} {rows : List V} (h : ∀ x ∈ rows, ShE σ a b id x) (j : Nat) (t' : Int) {t c i : Int} {g : Bool} {k : Nat} {xs : List Int} (o : Option Ob) (hx : rows[j]? = some (.agg [.int .u64 t, .int .i64 c, .int .u64 i, .bool g, .ref k 0 (List.length xs) 1])) :
    ∀ x ∈ rows.set j (.agg [.int .u64 t', .int .i64 c, .int .u64 i, .bool g, .ref k 0 (List.length xs) 1]), ShE (upd σ id o) a b id x := by
  intro x hm
  rcases mem_set hm with rfl | hm
  · obtain ⟨t2, c2, i2, g2, k2, xs2, e, a1, a2, a3, a4, a5⟩ := h _ (List.mem_of_getElem? hx)
    simp only [V.agg.injEq, List.cons.injEq, V.int.injEq, V.ref.injEq, V.bool.injEq, and_true, true_and] at e
    obtain ⟨-, -, -, -, rfl, e⟩ := e
    exact ⟨t', c, i, g, k, xs2, by rw [e], a1, a2, a3, by rw [upd_ne a3]; exact a4, a5⟩
  · exact (h x hm).loc (fun i _ _ hi => upd_ne hi)
theorem she_vec {σ : Sto} {a b id k : Nat} {xs ys : List Int} (hk : σ k = some (.row 1 (xs.map i32V))) (hl : ys.length = xs.length) {x : V} (h : ShE σ a b id x) : ShE (upd σ k (some (.row 1 (ys.map i32V)))) a b id x := by
  obtain ⟨t2, c2, i2, g2, k2, xs2, e, a1, a2, a3, a4, a5⟩ := h
  by_cases hkk : k2 = k
  · subst hkk
    rw [hk] at a4
    have : xs2.length = xs.length := by
      have := congrArg (fun o => match o with | some (Ob.row _ r) => List.length r | _ => 0) a4
      simpa using this.symm
    exact ⟨t2, c2, i2, g2, k2, ys, by rw [hl, ← this]; exact e, a1, a2, a3, upd_self _ _ _, by omega⟩
  · exact ⟨t2, c2, i2, g2, k2, xs2, e, a1, a2, a3, by rw [upd_ne hkk]; exact a4, a5⟩
theorem FChn.cells {σ : Sto} {m n : Nat} {v : V} {o : Option (List Fa)} (h : FChn σ m n v o) : v.cells = [v] := by
  cases o with
  | none => simp only [FChn] at h; subst h; rfl
  | some L => obtain ⟨id, ids, rfl, _⟩ := h; rfl
theorem FChn.one {σ : Sto} {m n : Nat} {v : V} {o : Option (List Fa)} (h : FChn σ m n v o) : v.one = true := by
  cases o with
  | none => simp only [FChn] at h; subst h; rfl
  | some L => obtain ⟨id, ids, rfl, _⟩ := h; rfl
theorem FChn.lenE {σ : Sto} {m n : Nat} {v : V} {o : Option (List Fa)} (h : FChn σ m n v o) : lenE v = some (.int .i64 ((lst o).length : Int)) := by
  cases o with
  | none => simp only [FChn] at h; subst h; rfl
  | some L => obtain ⟨id, ids, rfl, _⟩ := h; rw [lenE_ref]; rfl
theorem FChn.fz {σ : Sto} {m n : Nat} {v : V} {o : Option (List Fa)} (h : FChn σ m n v o) (ha : AllS (lst o)) : Fz σ 12 v (slV 5 faV o) (fun i => m ≤ i ∧ i < n) := by
  have hb := h.bls ha
  have := hb.frz
  rw [slV_map] at this
  exact ⟨this, hb.rch⟩
def exQN (b lk : Nat) (M : (Nat → V) → Sto → Nat → Prop) : Ex → St → Prop
  | .normal, s => s.lk = lk ∧ M s.env s.σ s.n
  | .exit i, s => i = b ∧ s.lk = lk ∧ M s.env s.σ s.n
  | .ret, _ => False
theorem exQN_normal (b lk lk' : Nat) (M : (Nat → V) → Sto → Nat → Prop) (env : Nat → V) (σ : Sto) (n : Nat) : exQN b lk M .normal ⟨env, σ, n, lk'⟩ = (lk' = lk ∧ M env σ n) := rfl
theorem stepW_blk {e : R3} {d : Option Nat} {ops : List AOp} {env : Nat → V} {lk b : Nat} {c : AC} {R : Ex → St → Prop} (M : (Nat → V) → Sto → Nat → Prop)
    (h : stepW T e d ops env lk (norQ (seqQ T c (exQN b lk M)))) (hM : ∀ env σ n, M env σ n → R .normal ⟨env, σ, n, lk⟩) : stepW T e d ops env lk (norQ (seqQ T c (blockW b R))) := by
  obtain ⟨v, σ', n', he, hk⟩ := bindE_out h
  unfold stepW
  rw [he]
  refine WR_mono _ _ _ _ _ _ _ (fun s hs => ?_) hk
  obtain ⟨env, σ, n, lk'⟩ := s
  show WC T c env σ n lk' _
  refine WC_mono _ _ _ _ _ _ _ (fun ex s hh => ?_) hs
  obtain ⟨env, σ, n, lk'⟩ := s
  cases ex with
  | normal => obtain ⟨h2, h3⟩ := hh; simp only at h2; subst h2; exact hM _ _ _ h3
  | exit i =>
    obtain ⟨rfl, h2, h3⟩ := hh
    simp only at h2
    subst h2
    simp only [blockW, if_true]
    exact hM _ _ _ h3
  | ret => exact hh.elim
theorem callE_sh' {f : Nat} {args ts : List V} {r : V} {σ : Sto} (hm : T.mode f ≠ .raw) (hts : args.mapM (frz σ 12) = some ts) (hr : res T f ts = some r) (ht : ∀ σ n, thaw σ n r = (r, σ, n)) (n : Nat) :
    ∃ σ', callE T true f args σ n 0 = some (r, σ', n) ∧ ∀ i, i ∉ args.flatMap (rch σ 12) → σ' i = σ i := by
  rw [callE_eq hm, hts, callR_some, hr, retE_some]
  unfold backE
  split
  · exact ⟨σ, by rw [ht], fun _ _ => rfl⟩
  · refine ⟨dropL σ (args.flatMap (rch σ 12)), ?_, fun i hi => by unfold dropL; rw [if_neg hi]⟩
    rw [if_pos (by simp), ht]
end Go.Q.S18
end

section
/- IdealAdds, the law. -/
set_option linter.unusedSimpArgs false
set_option linter.unusedVariables false
namespace Go.Q.S18
open Go.Q
theorem Fz.mono {σ σ' : Sto} {k : Nat} {v t : V} {S S' : Nat → Prop} (h : Fz σ k v t S) (hs : ∀ i, S i → σ' i = σ i) (hS : ∀ i, S i → S' i) : Fz σ' k v t S' := h.loc hs hS
def Okl (L : List Fa) (N : Nat) : Prop := L.length ≤ N ∧ ∀ f ∈ L, (lst f.w.v).length ≤ 5 ∧ f.w.v = some (lst f.w.v)
theorem Okl.fit {L : List Fa} {N : Nat} (h : Okl L N) (hN : N ≤ 1000) : FitF L := ⟨by have := h.1; omega, fun f hf => by have := (h.2 f hf).1; omega⟩
theorem Okl.all {L : List Fa} {N : Nat} (h : Okl L N) : AllS L := fun f hf => (h.2 f hf).2
theorem Okl.cp {L : List Fa} {N : Nat} (h : Okl L N) : Okl (L.map cpF) N := ⟨by rw [List.length_map]; exact h.1, fun f hf => by
  obtain ⟨g, hg, rfl⟩ := List.mem_map.1 hf
  exact ⟨(h.2 g hg).1, rfl⟩⟩
theorem cut_len (v : Vc) : (lst (cut v)).length ≤ 5 := by unfold cut; rw [lst_some, List.length_take]; omega
theorem Okl.few (x : List Fa) : Okl ((x.take 60).map cutF) 60 := ⟨by rw [List.length_map, List.length_take]; omega, fun f hf => by
  obtain ⟨g, hg, rfl⟩ := List.mem_map.1 hf
  exact ⟨cut_len _, rfl⟩⟩
theorem Okl.add {L : List Fa} {N : Nat} (h : Okl L N) (ts : Int) (ws : List Wr) : Okl (L ++ ((ws.take 13).map cutW).map (mkF ts)) (N + 13) := ⟨by
  rw [List.length_append, List.length_map, List.length_map, List.length_take]; have := h.1; omega, fun f hf => by
  rcases List.mem_append.1 hf with hf | hf
  · exact h.2 f hf
  · obtain ⟨g, hg, rfl⟩ := List.mem_map.1 hf
    obtain ⟨w, hw, rfl⟩ := List.mem_map.1 hg
    exact ⟨cut_len _, rfl⟩⟩
def newL (L : List Fa) (ts : Int) (W : List Wr) : List Fa := if addE L ts W = 0 then L ++ W.map (mkF ts) else []
theorem newL_q (L : List Fa) (ts : Int) (W : List Wr) (h1 : rightF L = true) (h2 : rightW W = true) : (refL (L.map cpF) ts W).map qF = (newL L ts W).map qF := by
  unfold refL newL addE
  rw [refE_cp, h1, h2]
  simp only [Bool.true_eq_false, if_false]
  split
  · rw [qF_cp, List.map_append, List.map_append, qF_cp]
  · rfl
theorem addO_newL (L : List Fa) (ts : Int) (W : List Wr) : lst (addO (oL L) ts W) = newL L ts W := by
  unfold addO newL
  rw [lst_oL]
  split
  · rw [lst_appO, lst_oL]
  · rfl
theorem addE_cp (L : List Fa) (ts : Int) (W : List Wr) : addE (L.map cpF) ts W = addE L ts W := by unfold addE; rw [rightF_cp, refE_cp]
theorem newL_cp (L : List Fa) (ts : Int) (W : List Wr) : (newL (L.map cpF) ts W).map qF = (newL L ts W).map qF := by
  unfold newL
  rw [addE_cp]
  split
  · rw [List.map_append, List.map_append, qF_cp]
  · rfl
theorem Okl.ref {L : List Fa} {N : Nat} (h : Okl L N) (ts : Int) (ws : List Wr) : Okl (refL L ts ((ws.take 13).map cutW)) (N + 13) := by
  unfold refL
  split
  · exact (h.add ts ws).cp
  · exact ⟨by simp, fun f hf => by simp at hf⟩
def SmC (c : Cm) : Prop := SmW c.ws
theorem r3 (x : Option (List Fa)) (cs : Option (List Cm)) (hx : SmF x) (hcl : (lst cs).length < 4611686018427387904) (hc : ∀ c ∈ lst cs, SmC c) : res T 3 [slV 5 faV x, slV 3 cmV cs] = some (.bool true) := by
  refine run_res (run_pure (fn := g3) rfl rfl (by decide) ?_)
  simp only [g3, b3, oO, oN, mV, lD, gO, pP, qQ, cI, aR]
  have f10' := f10 x hx
  have hm11 : T.mode 11 ≠ .raw := by decide
  have hm13 : T.mode 13 ≠ .raw := by decide
  have hm14 : T.mode 14 ≠ .raw := by decide
  have hm15 : T.mode 15 ≠ .raw := by decide
  have hm17 : T.mode 17 ≠ .raw := by decide
  have hm18 : T.mode 18 ≠ .raw := by decide
  simp +contextual -implicitDefEqProofs (maxSteps := 2000000) only [↓wP, wQ, wQ1, wQ2, wQ3, wR, boxE, partsOf, ↓reduceIte, Nat.reduceEqDiff, Nat.reduceAdd, Nat.reduceSub, Nat.reduceLeDiff, Nat.reduceLT, Nat.reduceMul, reduceCtorEq, Int.reduceBNe, Int.reduceBEq, Int.reduceLT, Int.reduceLE, Int.reduceGT, f9, f10']
  refine WC_for (lst cs).length 0 (fun (j : Nat) env σ n => env 20 = slV 3 cmV cs ∧ ∃ lv L, env 5 = lv ∧ j ≤ 12 ∧ Okl L (60 + 13 * j) ∧ Fz σ 12 lv (slV 5 faV (oL L)) (fun i => i < n)) (by omega) (by decide) (by decide) (fun _ _ => rfl) (fun _ _ _ => rfl) ?_ ?_ _ _ _ rfl rfl ?_
  · intro j env σ n hj h1 h2 ⟨g1, lv, L, g2, g3, g4, g5⟩
    simp only [vl_tmp] at h2
    have hxj : (lst cs)[j]? = some (lst cs)[j] := List.getElem?_eq_getElem hj
    have hcj := hc _ (List.getElem_mem hj)
    generalize (lst cs)[j] = c at *
    by_cases h12 : j = 12
    · have hd : ((j : Int) == 12) = true := by rw [h12]; rfl
      simp +contextual -implicitDefEqProofs (maxSteps := 2000000) only [↓wP, wQ, wQ1, wQ2, wQ3, wR, boxE, partsOf, ↓reduceIte, Nat.reduceEqDiff, Nat.reduceAdd, Nat.reduceSub, Nat.reduceLeDiff, Nat.reduceLT, Nat.reduceMul, reduceCtorEq, Int.reduceBNe, Int.reduceBEq, Int.reduceLT, Int.reduceLE, Int.reduceGT, h1, h2, g1, hxj, cmV_eq, hd]
    have hd : ((j : Int) == 12) = false := by simp; omega
    obtain ⟨σ1, hσ1⟩ : ∃ σ1, σ1 = upd (upd σ n (some (.row 3 [.agg [.int .u64 0, .bool false, .nilS]]))) n (some (.row 3 [.agg [.int .u64 c.ts, .bool c.near, slV 4 wrV c.ws]])) := ⟨_, rfl⟩
    have so : ∀ i, i < n → σ1 i = σ i := fun i hi => by rw [hσ1, upd_ne (by omega), upd_ne (by omega)]
    have sn : σ1 n = some (.row 3 [.agg [.int .u64 c.ts, .bool c.near, slV 4 wrV c.ws]]) := by rw [hσ1, upd_self]
    have k1 : Fz σ1 12 lv (slV 5 faV (oL L)) (fun i => i < n) := g5.loc so (fun _ h => h)
    have hfit : FitF (lst (oL L)) := by rw [lst_oL]; exact g4.fit (by omega)
    have m1 : [lv].mapM (frz σ1 12) = some [slV 5 faV (oL L)] := by simp only [List.mapM_cons, List.mapM_nil, k1.1]; rfl
    have w1 := callE_flat hm11 m1 (r11 (oL L) hfit) (flat_ownF _) true (n + 1) 0
    obtain ⟨wv, σ2, n2, q1, q2, q3, q4⟩ := thaw_ownF σ1 (n + 1) (oL ((lst (oL L)).map cpF))
    rw [q1] at w1
    rw [lst_oL] at q2
    have sn2 : σ2 n = some (.row 3 [.agg [.int .u64 c.ts, .bool c.near, slV 4 wrV c.ws]]) := by rw [q4 n (by omega)]; exact sn
    have k2 : Fz σ2 12 lv (slV 5 faV (oL L)) (fun i => i < n) := k1.loc (fun i hi => q4 i (by omega)) (fun _ h => h)
    have fw := f12 c.ws hcj
    obtain ⟨W, hW⟩ : ∃ W, W = ((lst c.ws).take 13).map cutW := ⟨_, rfl⟩
    have hcw : cutWs c.ws = oL W := by rw [hW]; rfl
    rw [hcw] at fw
    have m2 : [cmV c, lv].mapM (frz σ2 12) = some [cmV c, slV 5 faV (oL L)] := by
      simp only [List.mapM_cons, List.mapM_nil, k2.1, cmV_eq, frz_agg, frz_int, frz_bool, frz_slV]; rfl
    have w2 := callE_flat hm14 m2 (r14 c (oL L) hfit.sm.1) rfl true n2 0
    rw [thaw_int, lst_oL, cmV_eq] at w2
    obtain ⟨ts, hts⟩ : ∃ ts, ts = tsC c L := ⟨_, rfl⟩
    rw [← hts] at w2
    have hWl : W.length ≤ 13 := by rw [hW, List.length_map, List.length_take]; omega
    have hWv : ∀ x ∈ W, (lst x.v).length ≤ 5 ∧ x.v = some (lst x.v) := fun x hx => by
      rw [hW] at hx
      obtain ⟨y, -, rfl⟩ := List.mem_map.1 hx
      exact ⟨cut_len _, rfl⟩
    have hWf : FitW (lst (oL W)) := by rw [lst_oL]; exact ⟨by omega, fun x hx => by have := (hWv x hx).1; omega⟩
    have m3 : [lv, .int .u64 ts, slV 4 wrV (oL W)].mapM (frz σ2 12) = some [slV 5 faV (oL L), .int .u64 ts, slV 4 wrV (oL W)] := by
      simp only [List.mapM_cons, List.mapM_nil, k2.1, frz_int, frz_slV]; rfl
    have w3 := callE_flat hm13 m3 (r13 (oL L) ts (oL W) hfit (by rw [lst_oL]; exact g4.all) hWf (by rw [lst_oL]; exact fun x hx => (hWv x hx).2)) (by
      show (flat (ownF _) && (flat _ && true)) = true
      rw [flat_ownF]; rfl) true n2 0
    rw [lst_oL, lst_oL] at w3
    obtain ⟨E, hE⟩ : ∃ E, E = addE L ts W := ⟨_, rfl⟩
    rw [← hE] at w3
    obtain ⟨nv, σ3, n3, p1, p2, p3, p4⟩ := thaw_ownF σ2 n2 (addO (oL L) ts W)
    rw [thaw_tup, thawL_cons, p1] at w3
    simp only [thawL_cons, thawL_nil, thaw_int] at w3
    have sn3 : σ3 n = some (.row 3 [.agg [.int .u64 c.ts, .bool c.near, slV 4 wrV c.ws]]) := by rw [p4 n (by omega)]; exact sn2
    have k3 : Fz σ3 12 lv (slV 5 faV (oL L)) (fun i => i < n) := k2.loc (fun i hi => p4 i (by omega)) (fun _ h => h)
    have kw : FChn σ3 (n + 1) n2 wv (oL (L.map cpF)) := q2.loc (fun i _ hi => p4 i hi) (Nat.le_refl _) (Nat.le_refl _)
    have fw3 := kw.frz (by rw [lst_oL]; exact all_cp _) 9
    have fn3 := p2.frz (by
      rw [addO_newL]
      unfold newL
      split
      · intro f hf
        have := (g4.add ts (lst c.ws)).2 f (by rw [← hW]; exact hf)
        exact this.2
      · intro f hf; simp at hf) 9
    have hfitc : FitF (lst (oL (L.map cpF))) := by rw [lst_oL]; exact g4.cp.fit (by omega)
    have m4 : [wv].mapM (frz σ3 12) = some [slV 5 faV (oL (L.map cpF))] := by simp only [List.mapM_cons, List.mapM_nil, fw3]; rfl
    have w4 := callE_flat hm15 m4 (r15 _ hfitc) rfl true n3 0
    rw [thaw_bool, lst_oL, rightF_cp] at w4
    have f16' := f16 (oL W) ⟨by rw [lst_oL]; omega, fun x hx => by rw [lst_oL] at hx; have := (hWv x hx).1; unfold Sm; omega⟩
    rw [lst_oL] at f16'
    have nc := p2.cells
    have wc := kw.cells
    simp +contextual -implicitDefEqProofs (maxSteps := 2000000) only [↓wP, wQ, wQ1, wQ2, wQ3, wR, boxE, partsOf, ↓reduceIte, Nat.reduceEqDiff, Nat.reduceAdd, Nat.reduceSub, Nat.reduceLeDiff, Nat.reduceLT, Nat.reduceMul, reduceCtorEq, Int.reduceBNe, Int.reduceBEq, Int.reduceLT, Int.reduceLE, Int.reduceGT, h1, h2, g1, g2, hxj, cmV_eq, hd, ← hσ1, sn, w1, sn2, fw, w2, w3, q2.one, p2.one, nc, wc]
    refine stepW_blk (fun env' σ' n' => env' 5 = lv ∧ env' 7 = .ptr n 3 0 0 ∧ env' 8 = wv ∧ env' 9 = slV 4 wrV (oL W) ∧ env' 10 = nv ∧ env' 11 = .int .i64 E ∧ env' 13 = .int .i64 E ∧ env' 20 = slV 3 cmV cs ∧ env' 21 = .int .i64 ((lst cs).length : Int) ∧ env' 22 = .int .i64 (j : Int) ∧
      n3 ≤ n' ∧ (∀ i, i < n3 → σ' i = σ3 i) ∧ ∃ Wn, env' 12 = slV 5 faV (oL Wn) ∧ Wn.map qF = (newL L ts W).map qF ∧ Okl Wn (60 + 13 * (j + 1))) ?_ ?_
    · cases hR : rightF L
      · rw [hR] at w4
        have hE1 : E = 280 := by rw [hE]; unfold addE; rw [hR]; rfl
        have hN : newL L ts W = [] := by unfold newL; rw [← hE, hE1]; rfl
        simp +contextual -implicitDefEqProofs (maxSteps := 2000000) only [↓wP, wQ, wQ1, wQ2, wQ3, wR, boxE, partsOf, ↓reduceIte, Nat.reduceEqDiff, Nat.reduceAdd, Nat.reduceSub, Nat.reduceLeDiff, Nat.reduceLT, Nat.reduceMul, reduceCtorEq, Int.reduceBNe, Int.reduceBEq, Int.reduceLT, Int.reduceLE, Int.reduceGT, h1, h2, g1, g2, w4, exQN_normal]
        rw [hE1, hN]
        exact ⟨rfl, fun _ _ => trivial, [], rfl, rfl, by simp, fun f hf => by simp at hf⟩
      rw [hR] at w4
      cases hRW : rightW W
      · rw [hRW] at f16'
        have hE1 : E = 260 := by rw [hE]; unfold addE; rw [hR, hRW]; rfl
        have hN : newL L ts W = [] := by unfold newL; rw [← hE, hE1]; rfl
        simp +contextual -implicitDefEqProofs (maxSteps := 2000000) only [↓wP, wQ, wQ1, wQ2, wQ3, wR, boxE, partsOf, ↓reduceIte, Nat.reduceEqDiff, Nat.reduceAdd, Nat.reduceSub, Nat.reduceLeDiff, Nat.reduceLT, Nat.reduceMul, reduceCtorEq, Int.reduceBNe, Int.reduceBEq, Int.reduceLT, Int.reduceLE, Int.reduceGT, h1, h2, g1, g2, w4, f16', exQN_normal]
        rw [hE1, hN]
        exact ⟨rfl, fun _ _ => trivial, [], rfl, rfl, by simp, fun f hf => by simp at hf⟩
      rw [hRW] at f16'
      have hE1 : E = refE L ts W := by rw [hE]; unfold addE; rw [hR, hRW]; rfl
      have w5 := callE_flat hm11 m4 (r11 _ hfitc) (flat_ownF _) false n3 n3
      obtain ⟨dv, σ4, n4, q5, q6, q7, q8⟩ := thaw_ownF σ3 n3 (oL ((lst (oL (L.map cpF))).map cpF))
      have q9 := thaw_ownFn σ3 n3 (oL ((lst (oL (L.map cpF))).map cpF))
      rw [q5] at w5
      have hLl := g4.1
      have hn4 : n4 ≤ n3 + BIG := by
        rw [q5] at q9
        simp only [lst_oL, List.length_map] at q9
        have := big_le
        omega
      have hn4' : (n4 ≤ n3 + BIG) = True := by simp [hn4]
      obtain ⟨M, hM⟩ : ∃ M, M = merge σ3 σ4 n3 := ⟨_, rfl⟩
      have Mlow : ∀ i, i < n3 → M i = σ3 i := fun i hi => by rw [hM, merge_low _ _ _ hi]
      have e1 : ∀ hid, hide M n3 (n3 + BIG) hid n = some (.row 3 [.agg [.int .u64 c.ts, .bool c.near, slV 4 wrV c.ws]]) := fun hid => by
        rw [hide_low _ _ _ _ (by omega) (by omega), Mlow n (by omega)]; exact sn3
      have kwM : FChn M (n + 1) n2 wv (oL (L.map cpF)) := kw.loc (fun i _ hi => Mlow i (by omega)) (Nat.le_refl _) (Nat.le_refl _)
      have kdM : FChn M n3 n4 dv (oL ((L.map cpF).map cpF)) := by
        rw [lst_oL] at q6
        exact q6.loc (fun i hi hi' => by rw [hM, merge_in _ _ _ hi (by omega)]) (Nat.le_refl _) (Nat.le_refl _)
      have m5 : [cmV c, wv].mapM (frz M 12) = some [cmV c, slV 5 faV (oL (L.map cpF))] := by
        simp only [List.mapM_cons, List.mapM_nil, kwM.frz (by rw [lst_oL]; exact all_cp _) 9, cmV_eq, frz_agg, frz_int, frz_bool, frz_slV]; rfl
      have w6 := callE_flat hm14 m5 (r14 c (oL (L.map cpF)) hfitc.sm.1) rfl false (n3 + BIG) (n3 + BIG)
      rw [thaw_int, lst_oL, tsC_cp, ← hts, cmV_eq] at w6
      have hR' : okU (L.map cpF) (L.map cpF).length = true ∧ (L.map cpF).length ≤ 2000 := by
        have := rightF_cp L
        rw [hR] at this
        unfold rightF at this
        simp only [Bool.and_eq_true, decide_eq_true_eq] at this
        exact ⟨this.1.2, this.1.1⟩
      have fdM := kdM.fz (by rw [lst_oL]; exact all_cp _)
      have m7 : [dv, .int .u64 ts, slV 4 wrV (oL W)].mapM (frz M 12) = some [slV 5 faV (oL ((L.map cpF).map cpF)), .int .u64 ts, slV 4 wrV (oL W)] := by
        simp only [List.mapM_cons, List.mapM_nil, fdM.1, frz_int, frz_slV]; rfl
      have r17' := r17 (oL ((L.map cpF).map cpF)) ts (oL W) (by rw [lst_oL]; exact g4.cp.cp.fit (by omega)) (by rw [lst_oL, List.length_map, okU_cp]; exact hR'.1) hWf (by rw [lst_oL, List.length_map]; exact hR'.2) (by rw [lst_oL]; omega)
      rw [lst_oL, lst_oL, refE_cp, refE_cp, ← hE1] at r17'
      obtain ⟨σ5, w7, w8⟩ := callE_sh' hm17 m7 r17' (fun σ n => by rw [thaw_tup, thawL_cons, thaw_slV]; rfl) (n3 + BIG)
      have hlow : ∀ i, i < n3 → σ5 i = σ3 i := fun i hi => by
        rw [w8 i (fun hd => ?_), Mlow i hi]
        simp only [List.flatMap_cons, List.flatMap_nil, rch_int, rch_slV, List.append_nil, List.nil_append] at hd
        have := (fdM.2 i hd).1
        omega
      simp +contextual -implicitDefEqProofs (maxSteps := 2000000) only [↓wP, wQ, wQ1, wQ2, wQ3, wR, boxE, partsOf, ↓reduceIte, Nat.reduceEqDiff, Nat.reduceAdd, Nat.reduceSub, Nat.reduceLeDiff, Nat.reduceLT, Nat.reduceMul, reduceCtorEq, Int.reduceBNe, Int.reduceBEq, Int.reduceLT, Int.reduceLE, Int.reduceGT, h1, h2, g1, g2, w4, f16', w5, hn4', ← hM, Nat.mul_zero, Nat.mul_one, e1, w6, fw, w7, exQN_normal]
      refine ⟨by omega, hlow, _, rfl, ?_, ?_⟩
      · rw [newL_q (L.map cpF) ts W (by rw [rightF_cp]; exact hR) hRW, newL_cp]
      · rw [hW]; exact g4.cp.cp.ref ts (lst c.ws)
    · intro env' σ' n' ⟨c1, c2, c3, c4, c5, c6, c7, c8, c9, c10, c11, c12, Wn, c13, c14, c15⟩
      have sn' : σ' n = some (.row 3 [.agg [.int .u64 c.ts, .bool c.near, slV 4 wrV c.ws]]) := by rw [c12 n (by omega)]; exact sn3
      have klv : Fz σ' 12 lv (slV 5 faV (oL L)) (fun i => i < n) := k3.loc (fun i hi => c12 i (by omega)) (fun _ h => h)
      have kwv : FChn σ' (n + 1) n2 wv (oL (L.map cpF)) := kw.loc (fun i _ hi => c12 i (by omega)) (Nat.le_refl _) (Nat.le_refl _)
      have knv : FChn σ' n2 n3 nv (addO (oL L) ts W) := p2.loc (fun i _ hi => c12 i (by omega)) (Nat.le_refl _) (Nat.le_refl _)
      obtain ⟨N, hN⟩ : ∃ N, N = (lst (addO (oL L) ts W)).length := ⟨_, rfl⟩
      have hall3 : ∀ f ∈ lst (addO (oL L) ts W), (lst f.w.v).length ≤ 1000 := by
        rw [addO_newL]
        unfold newL
        split
        · intro f hf; have := ((g4.add ts (lst c.ws)).2 f (by rw [← hW]; exact hf)).1; omega
        · intro f hf; simp at hf
      have hall : AllS (lst (addO (oL L) ts W)) ∧ SmF (addO (oL L) ts W) := by
        have h0 : ∀ f ∈ newL L ts W, (lst f.w.v).length ≤ 5 ∧ f.w.v = some (lst f.w.v) := by
          unfold newL
          split
          · intro f hf; exact (g4.add ts (lst c.ws)).2 f (by rw [← hW]; exact hf)
          · intro f hf; simp at hf
        have h1 : (newL L ts W).length ≤ 1000 := by
          unfold newL
          split
          · have := g4.1; rw [List.length_append, List.length_map]; omega
          · simp
        unfold AllS SmF
        rw [addO_newL]
        exact ⟨fun f hf => (h0 f hf).2, by omega, fun f hf => by have := (h0 f hf).1; unfold Sm; omega⟩
      have hsW : SmF (oL Wn) := ⟨by rw [lst_oL]; have := c15.1; omega, fun f hf => by rw [lst_oL] at hf; have := (c15.2 f hf).1; unfold Sm; omega⟩
      have m9 : [nv, slV 5 faV (oL Wn)].mapM (frz σ' 12) = some [slV 5 faV (addO (oL L) ts W), slV 5 faV (oL Wn)] := by
        simp only [List.mapM_cons, List.mapM_nil, knv.frz hall.1 9, frz_slV]; rfl
      have w9 := callE_flat hm18 m9 (r18 _ _ hall.2 hsW) rfl true n' 0
      rw [thaw_bool, lst_oL, addO_newL, same_q c14.symm] at w9
      have hsL : SmF (oL L) := hfit.sm
      have hsL' : SmF (oL (L.map cpF)) := hfitc.sm
      have smq : sameL sameF1 (lst (oL L)) (lst (oL (L.map cpF))) = true := by rw [lst_oL, lst_oL]; exact same_q (qF_cp L).symm
      have m10 : [lv, wv].mapM (frz σ' 12) = some [slV 5 faV (oL L), slV 5 faV (oL (L.map cpF))] := by
        simp only [List.mapM_cons, List.mapM_nil, klv.1, kwv.frz (by rw [lst_oL]; exact all_cp _) 9]; rfl
      have w10 := callE_flat hm18 m10 (r18 _ _ hsL hsL') rfl true n' 0
      rw [thaw_bool, smq] at w10
      have f19' := f19 (oL W) (oL W) ⟨by rw [lst_oL]; omega, fun x hx => by rw [lst_oL] at hx; have := (hWv x hx).1; unfold Sm; omega⟩ ⟨by rw [lst_oL]; omega, fun x hx => by rw [lst_oL] at hx; have := (hWv x hx).1; unfold Sm; omega⟩
      rw [same_w] at f19'
      have t11' := t11 (oL Wn) (by rw [lst_oL]; exact c15.fit (by omega)) true σ' n' 0
      obtain ⟨xv, σ6, n6, s1, s2, s3, s4⟩ := thaw_ownF σ' n' (oL ((lst (oL Wn)).map cpF))
      rw [s1] at t11'
      rw [lst_oL] at s2
      have hle := knv.lenE
      rw [← hN] at hle
      have hshp := knv.shp (fun f hf => by have := (hall.2.2 f hf); exact hall3 f hf)
      rw [← hN] at hshp
      have hshp6 : Shp σ6 n2 n3 nv N := by
        rcases hshp with h | ⟨id, rows, e1, e2, e3, e4, e5, e6⟩
        · exact .inl h
        · exact .inr ⟨id, rows, e1, e2, by rw [s4 id (by omega)]; exact e3, e4, e5, fun x hx => (e6 x hx).loc (fun i _ hi _ => s4 i (by omega))⟩
      have hNl : N ≤ 1000 := by
        rw [hN, addO_newL]; unfold newL
        split
        · have := g4.1; rw [List.length_append, List.length_map]; omega
        · simp
      simp +contextual -implicitDefEqProofs (maxSteps := 2000000) only [↓wP, wQ, wQ1, wQ2, wQ3, wR, boxE, partsOf, ↓reduceIte, Nat.reduceEqDiff, Nat.reduceAdd, Nat.reduceSub, Nat.reduceLeDiff, Nat.reduceLT, Nat.reduceMul, reduceCtorEq, Int.reduceBNe, Int.reduceBEq, Int.reduceLT, Int.reduceLE, Int.reduceGT, c1, c2, c3, c4, c5, c6, c7, c8, c9, c10, c13, w9, w10, sn', fw, f19', t11', hle]
      refine WC_cutB (fun env σ n0 => env 5 = lv ∧ env 7 = .ptr n 3 0 0 ∧ env 8 = wv ∧ env 9 = slV 4 wrV (oL W) ∧ env 11 = .int .i64 E ∧ env 12 = xv ∧ env 20 = slV 3 cmV cs ∧ env 21 = .int .i64 ((lst cs).length : Int) ∧ env 22 = .int .i64 (j : Int) ∧
        n6 ≤ n0 ∧ ∀ i, i < n2 ∨ (n3 ≤ i ∧ i < n6) → σ i = σ6 i) ?_ ?_
      · refine WC_for N 0 (fun (j' : Nat) env σ n0 => env 5 = lv ∧ env 7 = .ptr n 3 0 0 ∧ env 8 = wv ∧ env 9 = slV 4 wrV (oL W) ∧ env 10 = nv ∧ env 11 = .int .i64 E ∧ env 12 = xv ∧ env 20 = slV 3 cmV cs ∧ env 21 = .int .i64 ((lst cs).length : Int) ∧ env 22 = .int .i64 (j : Int) ∧
          n6 ≤ n0 ∧ (∀ i, i < n2 ∨ (n3 ≤ i ∧ i < n6) → σ i = σ6 i) ∧ Shp σ n2 n3 nv N) (by omega) (by decide) (by decide) (fun _ _ => rfl) (fun _ _ _ => rfl) ?_ ?_ _ _ _ rfl rfl ?_
        · clear c1 c2 c3 c4 c5 c6 c7 c8 c9 c10
          intro j' env σ n0 hj' e1 e2 ⟨c1, c2, c3, c4, c5, c6, c7, c8, c9, c10, d1, d2, d3⟩
          simp only [vl_tmp] at e2
          rcases d3 with ⟨-, hz⟩ | ⟨id, rows, rfl, d4, d5, d6, d7, d8⟩
          · omega
          have hxr : rows[j']? = some (rows[j']'(by omega)) := List.getElem?_eq_getElem (by omega)
          obtain ⟨t, cc, i, g, k, xs, a1, a2, a3, a4, a5, a6⟩ := d8 _ (List.getElem_mem (by omega : j' < rows.length))
          rw [a1] at hxr
          obtain ⟨t', ht'⟩ : ∃ t', t' = IntKind.u64.wrap (t + 1) := ⟨_, rfl⟩
          have b6 := she_ts d8 j' t' (some (.row 5 (rows.set j' (.agg [.int .u64 t', .int .i64 cc, .int .u64 i, .bool g, .ref k 0 (List.length xs) 1])))) hxr
          obtain ⟨rows2, hr2⟩ : ∃ rows2, rows2 = rows.set j' (.agg [.int .u64 t', .int .i64 cc, .int .u64 i, .bool g, .ref k 0 (List.length xs) 1]) := ⟨_, rfl⟩
          rw [← hr2] at b6
          obtain ⟨σa, hσa⟩ : ∃ σa, σa = upd σ id (some (.row 5 rows2)) := ⟨_, rfl⟩
          rw [← hσa] at b6
          have b2 : rows2.length = N := by rw [hr2, List.length_set]; exact d4
          have hrow : σa id = some (.row 5 rows2) := by rw [hσa, upd_self]
          have hxr2 : rows2[j']? = some (.agg [.int .u64 t', .int .i64 cc, .int .u64 i, .bool g, .ref k 0 (List.length xs) 1]) := by
            rw [hr2, List.getElem?_set_self (by omega)]
          have oa : ∀ i, i < n2 ∨ (n3 ≤ i ∧ i < n6) → σa i = σ6 i := fun i hi => by rw [hσa, upd_ne (by omega)]; exact d2 i hi
          have a5' : σa k = some (.row 1 (xs.map i32V)) := by rw [hσa, upd_ne a4]; exact a5
          simp +contextual -implicitDefEqProofs (maxSteps := 2000000) only [↓wP, wQ, wQ1, wQ2, wQ3, wR, boxE, partsOf, ↓reduceIte, Nat.reduceEqDiff, Nat.reduceAdd, Nat.reduceSub, Nat.reduceLeDiff, Nat.reduceLT, Nat.reduceMul, reduceCtorEq, Int.reduceBNe, Int.reduceBEq, Int.reduceLT, Int.reduceLE, Int.reduceGT, e1, e2, c1, c2, c3, c4, c5, c6, c7, c8, c9, c10, hj', d5, hxr, ← ht', ← hr2, ← hσa, hrow, hxr2]
          refine WC_cutB (fun env σ n0 => env 5 = lv ∧ env 7 = .ptr n 3 0 0 ∧ env 8 = wv ∧ env 9 = slV 4 wrV (oL W) ∧ env 10 = .ref id 0 N 5 ∧ env 11 = .int .i64 E ∧ env 12 = xv ∧ env 20 = slV 3 cmV cs ∧ env 21 = .int .i64 ((lst cs).length : Int) ∧ env 22 = .int .i64 (j : Int) ∧
            env 89 = .int .i64 (N : Int) ∧ env 90 = .int .i64 (j' : Int) ∧ n6 ≤ n0 ∧ (∀ i, i < n2 ∨ (n3 ≤ i ∧ i < n6) → σ i = σ6 i) ∧ Shp σ n2 n3 (.ref id 0 N 5) N) ?_ ?_
          · refine WC_for xs.length 0 (fun (q : Nat) env σ n0 => env 5 = lv ∧ env 7 = .ptr n 3 0 0 ∧ env 8 = wv ∧ env 9 = slV 4 wrV (oL W) ∧ env 10 = .ref id 0 N 5 ∧ env 11 = .int .i64 E ∧ env 12 = xv ∧ env 14 = .int .i64 (j' : Int) ∧ env 20 = slV 3 cmV cs ∧ env 21 = .int .i64 ((lst cs).length : Int) ∧ env 22 = .int .i64 (j : Int) ∧
              env 89 = .int .i64 (N : Int) ∧ env 90 = .int .i64 (j' : Int) ∧ n6 ≤ n0 ∧ (∀ i, i < n2 ∨ (n3 ≤ i ∧ i < n6) → σ i = σ6 i) ∧ σ id = some (.row 5 rows2) ∧ (∃ ys : List Int, ys.length = xs.length ∧ σ k = some (.row 1 (ys.map i32V))) ∧
              (∀ x ∈ rows2, ShE σ n2 n3 id x)) (by omega) (by decide) (by decide) (fun _ _ => rfl) (fun _ _ _ => rfl) ?_ ?_ _ _ _ rfl rfl ?_
            · clear c1 c2 c3 c4 c5 c6 c7 c8 c9 c10 e1 e2 d1 d2
              intro q env σ n0 hq e1 e2 ⟨c1, c2, c3, c4, c5, c6, c7, c11, c8, c9, c10, c12, c13, d1, d2, u1, ⟨ys, u2, u3⟩, u4⟩
              simp only [vl_tmp] at e2
              have hy : (ys.map i32V)[q]? = some (.int .i32 (ys[q]'(by omega))) := by rw [List.getElem?_map, List.getElem?_eq_getElem (by omega)]; rfl
              have hq2 : q < (ys.map i32V).length := by rw [List.length_map]; omega
              have hset : ∀ v, (ys.map i32V).set q (.int .i32 v) = (ys.set q v).map i32V := fun v => by rw [List.map_set]; rfl
              obtain ⟨z, hz⟩ : ∃ z, z = IntKind.i32.wrap ((BitVec.ofInt IntKind.i32.bits ys[q] ^^^ BitVec.ofInt IntKind.i32.bits 85).toNat : Int) := ⟨_, rfl⟩
              obtain ⟨σb, hσb⟩ : ∃ σb, σb = upd σ k (some (.row 1 ((ys.set q z).map i32V))) := ⟨_, rfl⟩
              simp +contextual -implicitDefEqProofs (maxSteps := 2000000) only [↓wP, wQ, wQ1, wQ2, wQ3, wR, boxE, partsOf, ↓reduceIte, Nat.reduceEqDiff, Nat.reduceAdd, Nat.reduceSub, Nat.reduceLeDiff, Nat.reduceLT, Nat.reduceMul, reduceCtorEq, Int.reduceBNe, Int.reduceBEq, Int.reduceLT, Int.reduceLE, Int.reduceGT, e1, e2, c1, c2, c3, c4, c5, c6, c7, c11, c8, c9, c10, c12, c13, hj', hq, u1, u3, hxr2, hy, hq2, bin_xor, hset, ← hz, ← hσb]
              have hl2 : (ys.set q z).length = ys.length := List.length_set
              exact ⟨d1, fun i hi => by rw [hσb, upd_ne (by omega)]; exact d2 i hi, by rw [hσb, upd_ne (fun e => a4 e.symm)]; exact u1, ⟨ys.set q z, by omega, by rw [hσb, upd_self]⟩, fun x hx => by rw [hσb]; exact she_vec u3 hl2 (u4 x hx)⟩
            · intro env σ n0 ⟨c1, c2, c3, c4, c5, c6, c7, c11, c8, c9, c10, c12, c13, d1, d2, u1, _, u4⟩ e1 e2
              refine ⟨rfl, rfl, c1, c2, c3, c4, c5, c6, c7, c8, c9, c10, c12, c13, d1, d2, .inr ⟨id, rows2, rfl, b2, u1, d6, d7, u4⟩⟩
            · refine ⟨?_, ?_, ?_, ?_, ?_, ?_, ?_, ?_, ?_, ?_, ?_, ?_, ?_, d1, oa, hrow, ⟨xs, rfl, a5'⟩, b6⟩
              all_goals simp +contextual -implicitDefEqProofs (maxSteps := 2000000) only [↓wP, wQ, wQ1, wQ2, wQ3, wR, boxE, partsOf, ↓reduceIte, Nat.reduceEqDiff, Nat.reduceAdd, Nat.reduceSub, Nat.reduceLeDiff, Nat.reduceLT, Nat.reduceMul, reduceCtorEq, Int.reduceBNe, Int.reduceBEq, Int.reduceLT, Int.reduceLE, Int.reduceGT, e1, e2, c1, c2, c3, c4, c5, c6, c7, c8, c9, c10]
          · clear c1 c2 c3 c4 c5 c6 c7 c8 c9 c10 e1 e2 d1 d2
            intro env σ n0 ⟨c1, c2, c3, c4, c5, c6, c7, c8, c9, c10, e2, e1, d1, d2, d3⟩
            simp +contextual -implicitDefEqProofs (maxSteps := 2000000) only [↓wP, wQ, wQ1, wQ2, wQ3, wR, boxE, partsOf, ↓reduceIte, Nat.reduceEqDiff, Nat.reduceAdd, Nat.reduceSub, Nat.reduceLeDiff, Nat.reduceLT, Nat.reduceMul, reduceCtorEq, Int.reduceBNe, Int.reduceBEq, Int.reduceLT, Int.reduceLE, Int.reduceGT, e1, e2, c1, c2, c3, c4, c5, c6, c7, c8, c9, c10]
            exact ⟨d1, d2, d3⟩
        · clear c1 c2 c3 c4 c5 c6 c7 c8 c9 c10
          intro env σ n0 ⟨c1, c2, c3, c4, c5, c6, c7, c8, c9, c10, d1, d2, d3⟩ e1 e2
          exact ⟨rfl, rfl, c1, c2, c3, c4, c6, c7, c8, c9, c10, d1, d2⟩
        · simp +contextual -implicitDefEqProofs (maxSteps := 2000000) only [↓wP, wQ, wQ1, wQ2, wQ3, wR, boxE, partsOf, ↓reduceIte, Nat.reduceEqDiff, Nat.reduceAdd, Nat.reduceSub, Nat.reduceLeDiff, Nat.reduceLT, Nat.reduceMul, reduceCtorEq, Int.reduceBNe, Int.reduceBEq, Int.reduceLT, Int.reduceLE, Int.reduceGT, c1, c2, c3, c4, c5, c6, c8, c9, c10]
          exact ⟨fun _ _ => trivial, hshp6⟩
      · clear c1 c2 c3 c4 c5 c6 c7 c8 c9 c10
        intro env σ n0 ⟨c1, c2, c3, c4, c5, c6, c7, c8, c9, d1, d2⟩
        have snf : σ n = some (.row 3 [.agg [.int .u64 c.ts, .bool c.near, slV 4 wrV c.ws]]) := by rw [d2 n (by omega), s4 n (by omega)]; exact sn'
        have klv2 : Fz σ 12 lv (slV 5 faV (oL L)) (fun i => i < n) := klv.loc (fun i hi => by rw [d2 i (by omega), s4 i (by omega)]) (fun _ h => h)
        have kwv2 : FChn σ (n + 1) n2 wv (oL (L.map cpF)) := kwv.loc (fun i _ hi => by rw [d2 i (by omega), s4 i (by omega)]) (Nat.le_refl _) (Nat.le_refl _)
        have kxv2 : FChn σ n' n6 xv (oL (Wn.map cpF)) := s2.loc (fun i h1 hi => d2 i (by omega)) (Nat.le_refl _) (Nat.le_refl _)
        have m11 : [lv, wv].mapM (frz σ 12) = some [slV 5 faV (oL L), slV 5 faV (oL (L.map cpF))] := by
          simp only [List.mapM_cons, List.mapM_nil, klv2.1, kwv2.frz (by rw [lst_oL]; exact all_cp _) 9]; rfl
        have w11 := callE_flat hm18 m11 (r18 _ _ hsL hsL') rfl true n0 0
        rw [thaw_bool, smq] at w11
        have xc := kxv2.cells
        by_cases hE0 : E = 0
        · have hz : (E == 0) = true := by simp [hE0]
          simp +contextual -implicitDefEqProofs (maxSteps := 2000000) only [↓wP, wQ, wQ1, wQ2, wQ3, wR, boxE, partsOf, ↓reduceIte, Nat.reduceEqDiff, Nat.reduceAdd, Nat.reduceSub, Nat.reduceLeDiff, Nat.reduceLT, Nat.reduceMul, reduceCtorEq, Int.reduceBNe, Int.reduceBEq, Int.reduceLT, Int.reduceLE, Int.reduceGT, c1, c2, c3, c4, c5, c6, c7, c8, c9, w11, snf, fw, f19', hz]
          exact ⟨_, Wn.map cpF, rfl, by omega, c15.cp, (kxv2.fz (by rw [lst_oL]; exact all_cp _)).loc (fun _ _ => rfl) (fun i hi => by omega)⟩
        · have hz : (E == 0) = false := by simp [hE0]
          simp +contextual -implicitDefEqProofs (maxSteps := 2000000) only [↓wP, wQ, wQ1, wQ2, wQ3, wR, boxE, partsOf, ↓reduceIte, Nat.reduceEqDiff, Nat.reduceAdd, Nat.reduceSub, Nat.reduceLeDiff, Nat.reduceLT, Nat.reduceMul, reduceCtorEq, Int.reduceBNe, Int.reduceBEq, Int.reduceLT, Int.reduceLE, Int.reduceGT, c1, c2, c3, c4, c5, c6, c7, c8, c9, w11, snf, fw, f19', hz]
          exact ⟨_, L, rfl, by omega, ⟨by have := g4.1; omega, g4.2⟩, klv2.loc (fun _ _ => rfl) (fun i hi => by omega)⟩
  · intro env σ n ⟨g1, _⟩ h1 h2
    simp +contextual -implicitDefEqProofs (maxSteps := 2000000) only [↓wP, wQ, wQ1, wQ2, wQ3, wR, boxE, partsOf, ↓reduceIte, Nat.reduceEqDiff, Nat.reduceAdd, Nat.reduceSub, Nat.reduceLeDiff, Nat.reduceLT, Nat.reduceMul, reduceCtorEq, Int.reduceBNe, Int.reduceBEq, Int.reduceLT, Int.reduceLE, Int.reduceGT]
  · refine ⟨rfl, _, (lst x).take 60 |>.map cutF, rfl, by omega, Okl.few _, Fz.tree (Tr_slV _ _ _ _)⟩
end Go.Q.S18
end

section
/- The arguments of seat 18's statements, as trees. -/
set_option linter.unusedSimpArgs false
set_option linter.unusedVariables false
set_option maxRecDepth 20000
namespace Go.Q.S18
open Go.Q Go.Proofs
def eI32 : Enc Try.prog 21 Int := Enc.int .i32 Try.underlying21
def eInt : Enc Try.prog 3 Int := Enc.int .i64 Try.underlying3
def eU64 : Enc Try.prog 26 Int := Enc.int .u64 Try.underlying26
def eBool : Enc Try.prog 4 Bool := Enc.bool Try.underlying4
def eVec : Enc Try.prog 39 (Option (List Int)) := Enc.slice eI32 Try.underlying39 1 (by kernel_rfl) (by decide) 4 (by kernel_rfl)
theorem okVec {o : Option (List Int)} (h : eVec.ok o) : (lst o).length < 4611686018427387904 := by
  cases o with
  | none => simp [lst]
  | some l =>
    obtain ⟨h1, h2, h3⟩ := h l rfl
    rw [reach_eq] at h2
    rw [lst_some]
    omega
def eWr : Enc Try.prog 41 Wr := Enc.map
  (Enc.struct (EncF.cons (off := 0) (sz := 1) eInt rfl (by kernel_rfl) (EncF.cons (sz := 1) eU64 rfl (by kernel_rfl) (EncF.cons (sz := 1) eBool rfl (by kernel_rfl) (EncF.cons (sz := 1) eVec rfl (by kernel_rfl) EncF.nil)))) Try.underlying41 (by kernel_rfl))
  (fun x => ⟨x.1, x.2.1, x.2.2.1, x.2.2.2.1⟩) wrV (fun r => Sm r.v) (fun a _ => by obtain ⟨a, b, c, d, u⟩ := a; cases d <;> rfl) (fun a h => by have := okVec h.2.2.2.1; unfold Sm; dsimp only at this ⊢; omega)
def eWrs : Enc Try.prog 27 (Option (List Wr)) := Enc.slice eWr Try.underlying27 4 (by kernel_rfl) (by decide) 48 (by kernel_rfl)
theorem okWrs {o : Option (List Wr)} (h : eWrs.ok o) : SmW o := by
  cases o with
  | none => exact ⟨by simp [lst], by simp [lst]⟩
  | some l =>
    obtain ⟨h1, h2, h3⟩ := h l rfl
    rw [reach_eq] at h2
    exact ⟨by rw [lst_some]; omega, fun r hr => h3 r hr⟩
def eFa : Enc Try.prog 43 Fa := Enc.map
  (Enc.struct (EncF.cons (off := 0) (sz := 1) eU64 rfl (by kernel_rfl) (EncF.cons (sz := 4) eWr rfl (by kernel_rfl) EncF.nil)) Try.underlying43 (by kernel_rfl))
  (fun x => ⟨x.1, x.2.1⟩) faV (fun r => Sm r.w.v) (fun a _ => by obtain ⟨a, b, u⟩ := a; cases b; rfl) (fun a h => h.2.1)
def eFas : Enc Try.prog 22 (Option (List Fa)) := Enc.slice eFa Try.underlying22 5 (by kernel_rfl) (by decide) 56 (by kernel_rfl)
theorem okFas {o : Option (List Fa)} (h : eFas.ok o) : SmF o := by
  cases o with
  | none => exact ⟨by simp [lst], by simp [lst]⟩
  | some l =>
    obtain ⟨h1, h2, h3⟩ := h l rfl
    rw [reach_eq] at h2
    exact ⟨by rw [lst_some]; omega, fun r hr => h3 r hr⟩
def eCm : Enc Try.prog 29 Cm := Enc.map
  (Enc.struct (EncF.cons (off := 0) (sz := 1) eU64 rfl (by kernel_rfl) (EncF.cons (sz := 1) eBool rfl (by kernel_rfl) (EncF.cons (sz := 1) eWrs rfl (by kernel_rfl) EncF.nil))) Try.underlying29 (by kernel_rfl))
  (fun x => ⟨x.1, x.2.1, x.2.2.1⟩) cmV (fun r => SmC r) (fun a _ => by obtain ⟨a, b, c, u⟩ := a; cases c <;> rfl) (fun a h => okWrs h.2.2.1)
def eCms : Enc Try.prog 23 (Option (List Cm)) := Enc.slice eCm Try.underlying23 3 (by kernel_rfl) (by decide) 40 (by kernel_rfl)
theorem okCms {o : Option (List Cm)} (h : eCms.ok o) : (lst o).length < 4611686018427387904 ∧ ∀ c ∈ lst o, SmC c := by
  cases o with
  | none => exact ⟨by simp [lst], by simp [lst]⟩
  | some l =>
    obtain ⟨h1, h2, h3⟩ := h l rfl
    rw [reach_eq] at h2
    exact ⟨by rw [lst_some]; omega, fun r hr => h3 r hr⟩
end Go.Q.S18
end

section
/- The table is the program's. -/
namespace Go.Q.S18
open Go.Proofs
def Has (f : Nat) (fn : Fn) : Prop := ∃ F, Try.prog.funcs[f]? = some F ∧ cFunc Try.prog (ownB T) F = some fn ∧ (F.name == "runtime.NumGoroutine") = false
theorem h3 : Has 3 g3 := ⟨Try.f3, Try.func3, by kernel_rfl, by kernel_rfl⟩
theorem h4 : Has 4 g4 := ⟨Try.f4, Try.func4, by kernel_rfl, by kernel_rfl⟩
theorem h5 : Has 5 g5 := ⟨Try.f5, Try.func5, by kernel_rfl, by kernel_rfl⟩
theorem h6 : Has 6 g6 := ⟨Try.f6, Try.func6, by kernel_rfl, by kernel_rfl⟩
theorem h7 : Has 7 g7 := ⟨Try.f7, Try.func7, by kernel_rfl, by kernel_rfl⟩
theorem h8 : Has 8 g8 := ⟨Try.f8, Try.func8, by kernel_rfl, by kernel_rfl⟩
theorem h9 : Has 9 g9 := ⟨Try.f9, Try.func9, by kernel_rfl, by kernel_rfl⟩
theorem h10 : Has 10 g10 := ⟨Try.f10, Try.func10, by kernel_rfl, by kernel_rfl⟩
theorem h11 : Has 11 g11 := ⟨Try.f11, Try.func11, by kernel_rfl, by kernel_rfl⟩
theorem h12 : Has 12 g12 := ⟨Try.f12, Try.func12, by kernel_rfl, by kernel_rfl⟩
theorem h13 : Has 13 g13 := ⟨Try.f13, Try.func13, by kernel_rfl, by kernel_rfl⟩
theorem h14 : Has 14 g14 := ⟨Try.f14, Try.func14, by kernel_rfl, by kernel_rfl⟩
theorem h15 : Has 15 g15 := ⟨Try.f15, Try.func15, by kernel_rfl, by kernel_rfl⟩
theorem h16 : Has 16 g16 := ⟨Try.f16, Try.func16, by kernel_rfl, by kernel_rfl⟩
theorem h17 : Has 17 g17 := ⟨Try.f17, Try.func17, by kernel_rfl, by kernel_rfl⟩
theorem h18 : Has 18 g18 := ⟨Try.f18, Try.func18, by kernel_rfl, by kernel_rfl⟩
theorem h19 : Has 19 g19 := ⟨Try.f19, Try.func19, by kernel_rfl, by kernel_rfl⟩
theorem h20 : Has 20 g20 := ⟨Try.f20, Try.func20, by kernel_rfl, by kernel_rfl⟩
theorem h21 : Has 21 g21 := ⟨Try.f21, Try.func21, by kernel_rfl, by kernel_rfl⟩
theorem h22 : Has 22 g22 := ⟨Try.f22, Try.func22, by kernel_rfl, by kernel_rfl⟩
theorem h23 : Has 23 g23 := ⟨Try.f23, Try.func23, by kernel_rfl, by kernel_rfl⟩
theorem h24 : Has 24 g24 := ⟨Try.f24, Try.func24, by kernel_rfl, by kernel_rfl⟩
theorem h25 : Has 25 g25 := ⟨Try.f25, Try.func25, by kernel_rfl, by kernel_rfl⟩
theorem h26 : Has 26 g26 := ⟨Try.f26, Try.func26, by kernel_rfl, by kernel_rfl⟩
theorem h27 : Has 27 g27 := ⟨Try.f27, Try.func27, by kernel_rfl, by kernel_rfl⟩
theorem h28 : Has 28 g28 := ⟨Try.f28, Try.func28, by kernel_rfl, by kernel_rfl⟩
theorem h29 : Has 29 g29 := ⟨Try.f29, Try.func29, by kernel_rfl, by kernel_rfl⟩
theorem h30 : Has 30 g30 := ⟨Try.f30, Try.func30, by kernel_rfl, by kernel_rfl⟩
theorem h31 : Has 31 g31 := ⟨Try.f31, Try.func31, by kernel_rfl, by kernel_rfl⟩
theorem h32 : Has 32 g32 := ⟨Try.f32, Try.func32, by kernel_rfl, by kernel_rfl⟩
theorem h33 : Has 33 g33 := ⟨Try.f33, Try.func33, by kernel_rfl, by kernel_rfl⟩
theorem h34 : Has 34 g34 := ⟨Try.f34, Try.func34, by kernel_rfl, by kernel_rfl⟩
theorem h35 : Has 35 g35 := ⟨Try.f35, Try.func35, by kernel_rfl, by kernel_rfl⟩
theorem h36 : Has 36 g36 := ⟨Try.f36, Try.func36, by kernel_rfl, by kernel_rfl⟩
theorem h37 : Has 37 g37 := ⟨Try.f37, Try.func37, by kernel_rfl, by kernel_rfl⟩
theorem h38 : Has 38 g38 := ⟨Try.f38, Try.func38, by kernel_rfl, by kernel_rfl⟩
theorem h39 : Has 39 g39 := ⟨Try.f39, Try.func39, by kernel_rfl, by kernel_rfl⟩
theorem h40 : Has 40 g40 := ⟨Try.f40, Try.func40, by kernel_rfl, by kernel_rfl⟩
theorem h41 : Has 41 g41 := ⟨Try.f41, Try.func41, by kernel_rfl, by kernel_rfl⟩
theorem h42 : Has 42 g42 := ⟨Try.f42, Try.func42, by kernel_rfl, by kernel_rfl⟩
theorem h43 : Has 43 g43 := ⟨Try.f43, Try.func43, by kernel_rfl, by kernel_rfl⟩
theorem h44 : Has 44 g44 := ⟨Try.f44, Try.func44, by kernel_rfl, by kernel_rfl⟩
theorem h45 : Has 45 g45 := ⟨Try.f45, Try.func45, by kernel_rfl, by kernel_rfl⟩
theorem h46 : Has 46 g46 := ⟨Try.f46, Try.func46, by kernel_rfl, by kernel_rfl⟩
theorem h47 : Has 47 g47 := ⟨Try.f47, Try.func47, by kernel_rfl, by kernel_rfl⟩
theorem h48 : Has 48 g48 := ⟨Try.f48, Try.func48, by kernel_rfl, by kernel_rfl⟩
theorem h49 : Has 49 g49 := ⟨Try.f49, Try.func49, by kernel_rfl, by kernel_rfl⟩
theorem h50 : Has 50 g50 := ⟨Try.f50, Try.func50, by kernel_rfl, by kernel_rfl⟩
theorem h51 : Has 51 g51 := ⟨Try.f51, Try.func51, by kernel_rfl, by kernel_rfl⟩
theorem h52 : Has 52 g52 := ⟨Try.f52, Try.func52, by kernel_rfl, by kernel_rfl⟩
theorem h53 : Has 53 g53 := ⟨Try.f53, Try.func53, by kernel_rfl, by kernel_rfl⟩
theorem h54 : Has 54 g54 := ⟨Try.f54, Try.func54, by kernel_rfl, by kernel_rfl⟩
theorem h55 : Has 55 g55 := ⟨Try.f55, Try.func55, by kernel_rfl, by kernel_rfl⟩
theorem h56 : Has 56 g56 := ⟨Try.f56, Try.func56, by kernel_rfl, by kernel_rfl⟩
theorem h57 : Has 57 g57 := ⟨Try.f57, Try.func57, by kernel_rfl, by kernel_rfl⟩
theorem h58 : Has 58 g58 := ⟨Try.f58, Try.func58, by kernel_rfl, by kernel_rfl⟩
theorem h59 : Has 59 g59 := ⟨Try.f59, Try.func59, by kernel_rfl, by kernel_rfl⟩
theorem h60 : Has 60 g60 := ⟨Try.f60, Try.func60, by kernel_rfl, by kernel_rfl⟩
theorem h61 : Has 61 g61 := ⟨Try.f61, Try.func61, by kernel_rfl, by kernel_rfl⟩
theorem h62 : Has 62 g62 := ⟨Try.f62, Try.func62, by kernel_rfl, by kernel_rfl⟩
theorem h63 : Has 63 g63 := ⟨Try.f63, Try.func63, by kernel_rfl, by kernel_rfl⟩
theorem h64 : Has 64 g64 := ⟨Try.f64, Try.func64, by kernel_rfl, by kernel_rfl⟩
theorem h65 : Has 65 g65 := ⟨Try.f65, Try.func65, by kernel_rfl, by kernel_rfl⟩
theorem h66 : Has 66 g66 := ⟨Try.f66, Try.func66, by kernel_rfl, by kernel_rfl⟩
theorem h67 : Has 67 g67 := ⟨Try.f67, Try.func67, by kernel_rfl, by kernel_rfl⟩
theorem h68 : Has 68 g68 := ⟨Try.f68, Try.func68, by kernel_rfl, by kernel_rfl⟩
theorem h69 : Has 69 g69 := ⟨Try.f69, Try.func69, by kernel_rfl, by kernel_rfl⟩
theorem h70 : Has 70 g70 := ⟨Try.f70, Try.func70, by kernel_rfl, by kernel_rfl⟩
theorem h71 : Has 71 g71 := ⟨Try.f71, Try.func71, by kernel_rfl, by kernel_rfl⟩
theorem h72 : Has 72 g72 := ⟨Try.f72, Try.func72, by kernel_rfl, by kernel_rfl⟩
theorem h73 : Has 73 g73 := ⟨Try.f73, Try.func73, by kernel_rfl, by kernel_rfl⟩
theorem h74 : Has 74 g74 := ⟨Try.f74, Try.func74, by kernel_rfl, by kernel_rfl⟩
theorem h75 : Has 75 g75 := ⟨Try.f75, Try.func75, by kernel_rfl, by kernel_rfl⟩
theorem h76 : Has 76 g76 := ⟨Try.f76, Try.func76, by kernel_rfl, by kernel_rfl⟩
theorem h77 : Has 77 g77 := ⟨Try.f77, Try.func77, by kernel_rfl, by kernel_rfl⟩
theorem h78 : Has 78 g78 := ⟨Try.f78, Try.func78, by kernel_rfl, by kernel_rfl⟩
theorem h79 : Has 79 g79 := ⟨Try.f79, Try.func79, by kernel_rfl, by kernel_rfl⟩
theorem h80 : Has 80 g80 := ⟨Try.f80, Try.func80, by kernel_rfl, by kernel_rfl⟩
theorem h81 : Has 81 g81 := ⟨Try.f81, Try.func81, by kernel_rfl, by kernel_rfl⟩
theorem h82 : Has 82 g82 := ⟨Try.f82, Try.func82, by kernel_rfl, by kernel_rfl⟩
theorem h83 : Has 83 g83 := ⟨Try.f83, Try.func83, by kernel_rfl, by kernel_rfl⟩
theorem h84 : Has 84 g84 := ⟨Try.f84, Try.func84, by kernel_rfl, by kernel_rfl⟩
theorem h85 : Has 85 g85 := ⟨Try.f85, Try.func85, by kernel_rfl, by kernel_rfl⟩
theorem h86 : Has 86 g86 := ⟨Try.f86, Try.func86, by kernel_rfl, by kernel_rfl⟩
theorem h87 : Has 87 g87 := ⟨Try.f87, Try.func87, by kernel_rfl, by kernel_rfl⟩
theorem h88 : Has 88 g88 := ⟨Try.f88, Try.func88, by kernel_rfl, by kernel_rfl⟩
theorem h89 : Has 89 g89 := ⟨Try.f89, Try.func89, by kernel_rfl, by kernel_rfl⟩
theorem h90 : Has 90 g90 := ⟨Try.f90, Try.func90, by kernel_rfl, by kernel_rfl⟩
theorem h91 : Has 91 g91 := ⟨Try.f91, Try.func91, by kernel_rfl, by kernel_rfl⟩
theorem h92 : Has 92 g92 := ⟨Try.f92, Try.func92, by kernel_rfl, by kernel_rfl⟩
theorem h93 : Has 93 g93 := ⟨Try.f93, Try.func93, by kernel_rfl, by kernel_rfl⟩
theorem h94 : Has 94 g94 := ⟨Try.f94, Try.func94, by kernel_rfl, by kernel_rfl⟩
theorem h95 : Has 95 g95 := ⟨Try.f95, Try.func95, by kernel_rfl, by kernel_rfl⟩
theorem h96 : Has 96 g96 := ⟨Try.f96, Try.func96, by kernel_rfl, by kernel_rfl⟩
theorem h97 : Has 97 g97 := ⟨Try.f97, Try.func97, by kernel_rfl, by kernel_rfl⟩
theorem h98 : Has 98 g98 := ⟨Try.f98, Try.func98, by kernel_rfl, by kernel_rfl⟩
theorem h99 : Has 99 g99 := ⟨Try.f99, Try.func99, by kernel_rfl, by kernel_rfl⟩
theorem h100 : Has 100 g100 := ⟨Try.f100, Try.func100, by kernel_rfl, by kernel_rfl⟩
theorem h101 : Has 101 g101 := ⟨Try.f101, Try.func101, by kernel_rfl, by kernel_rfl⟩
theorem h102 : Has 102 g102 := ⟨Try.f102, Try.func102, by kernel_rfl, by kernel_rfl⟩
theorem h103 : Has 103 g103 := ⟨Try.f103, Try.func103, by kernel_rfl, by kernel_rfl⟩
theorem h104 : Has 104 g104 := ⟨Try.f104, Try.func104, by kernel_rfl, by kernel_rfl⟩
theorem h105 : Has 105 g105 := ⟨Try.f105, Try.func105, by kernel_rfl, by kernel_rfl⟩
theorem h106 : Has 106 g106 := ⟨Try.f106, Try.func106, by kernel_rfl, by kernel_rfl⟩
theorem h107 : Has 107 g107 := ⟨Try.f107, Try.func107, by kernel_rfl, by kernel_rfl⟩
theorem h108 : Has 108 g108 := ⟨Try.f108, Try.func108, by kernel_rfl, by kernel_rfl⟩
theorem h109 : Has 109 g109 := ⟨Try.f109, Try.func109, by kernel_rfl, by kernel_rfl⟩
theorem h110 : Has 110 g110 := ⟨Try.f110, Try.func110, by kernel_rfl, by kernel_rfl⟩
theorem h111 : Has 111 g111 := ⟨Try.f111, Try.func111, by kernel_rfl, by kernel_rfl⟩
theorem h112 : Has 112 g112 := ⟨Try.f112, Try.func112, by kernel_rfl, by kernel_rfl⟩
theorem h113 : Has 113 g113 := ⟨Try.f113, Try.func113, by kernel_rfl, by kernel_rfl⟩
theorem h114 : Has 114 g114 := ⟨Try.f114, Try.func114, by kernel_rfl, by kernel_rfl⟩
theorem h115 : Has 115 g115 := ⟨Try.f115, Try.func115, by kernel_rfl, by kernel_rfl⟩
theorem h116 : Has 116 g116 := ⟨Try.f116, Try.func116, by kernel_rfl, by kernel_rfl⟩
theorem h117 : Has 117 g117 := ⟨Try.f117, Try.func117, by kernel_rfl, by kernel_rfl⟩
theorem h118 : Has 118 g118 := ⟨Try.f118, Try.func118, by kernel_rfl, by kernel_rfl⟩
theorem h119 : Has 119 g119 := ⟨Try.f119, Try.func119, by kernel_rfl, by kernel_rfl⟩
theorem h120 : Has 120 g120 := ⟨Try.f120, Try.func120, by kernel_rfl, by kernel_rfl⟩
theorem h121 : Has 121 g121 := ⟨Try.f121, Try.func121, by kernel_rfl, by kernel_rfl⟩
theorem h122 : Has 122 g122 := ⟨Try.f122, Try.func122, by kernel_rfl, by kernel_rfl⟩
theorem h123 : Has 123 g123 := ⟨Try.f123, Try.func123, by kernel_rfl, by kernel_rfl⟩
theorem h124 : Has 124 g124 := ⟨Try.f124, Try.func124, by kernel_rfl, by kernel_rfl⟩
theorem h125 : Has 125 g125 := ⟨Try.f125, Try.func125, by kernel_rfl, by kernel_rfl⟩
theorem h126 : Has 126 g126 := ⟨Try.f126, Try.func126, by kernel_rfl, by kernel_rfl⟩
theorem h127 : Has 127 g127 := ⟨Try.f127, Try.func127, by kernel_rfl, by kernel_rfl⟩
theorem h128 : Has 128 g128 := ⟨Try.f128, Try.func128, by kernel_rfl, by kernel_rfl⟩
theorem tabOf : TabOf Try.prog T := by
  intro f fn h
  simp only [T] at h
  unfold fnOf at h
  split at h
  all_goals first | (cases h; done) | skip
  all_goals (simp only [Option.some.injEq] at h; subst h)
  · exact h3
  · exact h4
  · exact h5
  · exact h6
  · exact h7
  · exact h8
  · exact h9
  · exact h10
  · exact h11
  · exact h12
  · exact h13
  · exact h14
  · exact h15
  · exact h16
  · exact h17
  · exact h18
  · exact h19
  · exact h20
  · exact h21
  · exact h22
  · exact h23
  · exact h24
  · exact h25
  · exact h26
  · exact h27
  · exact h28
  · exact h29
  · exact h30
  · exact h31
  · exact h32
  · exact h33
  · exact h34
  · exact h35
  · exact h36
  · exact h37
  · exact h38
  · exact h39
  · exact h40
  · exact h41
  · exact h42
  · exact h43
  · exact h44
  · exact h45
  · exact h46
  · exact h47
  · exact h48
  · exact h49
  · exact h50
  · exact h51
  · exact h52
  · exact h53
  · exact h54
  · exact h55
  · exact h56
  · exact h57
  · exact h58
  · exact h59
  · exact h60
  · exact h61
  · exact h62
  · exact h63
  · exact h64
  · exact h65
  · exact h66
  · exact h67
  · exact h68
  · exact h69
  · exact h70
  · exact h71
  · exact h72
  · exact h73
  · exact h74
  · exact h75
  · exact h76
  · exact h77
  · exact h78
  · exact h79
  · exact h80
  · exact h81
  · exact h82
  · exact h83
  · exact h84
  · exact h85
  · exact h86
  · exact h87
  · exact h88
  · exact h89
  · exact h90
  · exact h91
  · exact h92
  · exact h93
  · exact h94
  · exact h95
  · exact h96
  · exact h97
  · exact h98
  · exact h99
  · exact h100
  · exact h101
  · exact h102
  · exact h103
  · exact h104
  · exact h105
  · exact h106
  · exact h107
  · exact h108
  · exact h109
  · exact h110
  · exact h111
  · exact h112
  · exact h113
  · exact h114
  · exact h115
  · exact h116
  · exact h117
  · exact h118
  · exact h119
  · exact h120
  · exact h121
  · exact h122
  · exact h123
  · exact h124
  · exact h125
  · exact h126
  · exact h127
  · exact h128
theorem mixed : Try.prog.follows .mixedOrders = true := by kernel_rfl
end Go.Q.S18
end
