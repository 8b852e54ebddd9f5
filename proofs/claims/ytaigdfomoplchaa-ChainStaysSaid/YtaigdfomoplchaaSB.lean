/- Copies with vectors of their own; the open version ends. -/
import Derived.Test.YtaigdfomoplchaaSA
import Derived.Test.YtaigdfomoplchaaProg
import Derived.KernelRfl
section
set_option linter.unusedSimpArgs false
set_option linter.unusedVariables false
namespace Go.Q.S4
open Go.Q

def Fit (o : Option (List Int)) : Prop := (lst o).length * 4 ≤ LIM
def FitC (o : Option (List Ver)) : Prop := (lst o).length * 40 ≤ LIM ∧ ∀ x ∈ lst o, Fit x.v

theorem r51 (l : List Int) (h : l.length * 4 ≤ LIM) : res T 51 [slV 1 i32V (some l)] = some (.own 1 (l.map i32V)) := by
  refine run_res (run_own (fn := g51) rfl rfl (by decide) ?_)
  simp only [g51, b51]
  have hl : (l.map i32V).length * 4 ≤ LIM := by simpa using h
  simp +contextual -implicitDefEqProofs (maxSteps := 2000000) only [↓wP, wQ, wQ1, wQ2, wQ3, wR, boxE, partsOf, ↓reduceIte, Nat.reduceEqDiff, Nat.reduceAdd, Nat.reduceSub, Nat.reduceLeDiff, Nat.reduceLT, Nat.reduceMul, reduceCtorEq, Int.reduceBNe, Int.reduceBEq, Int.reduceLT, Int.reduceLE, Int.reduceGT, slV_some, hl]
  have := giv_row (σ := upd (upd (upd Sto.empty 0 (some (.row 1 []))) 0 none) 1 (some (.row 1 (l.map i32V)))) (id := 1) (sz := 1) (xs := l.map i32V) (by simp [upd])
    (fun x hx => by obtain ⟨t, -, rfl⟩ := List.mem_map.1 hx; rfl) (fun x hx c hc => by obtain ⟨t, -, rfl⟩ := List.mem_map.1 hx; simp [i32V, V.cells] at hc; subst hc; rfl)
  simpa using this

theorem f51 (l : List Int) (h : l.length * 4 ≤ LIM) (fs : Bool) (σ : Sto) (n lk : Nat) : callE T fs 51 [slV 1 i32V (some l)] σ n lk = some (.ref n 0 l.length 1, upd σ n (some (.row 1 (l.map i32V))), n + 1) := by
  have := callE_own (by decide) (r51 l h) (by simp [Tr, Tr_slV]) (fun x hx => by obtain ⟨t, -, rfl⟩ := List.mem_map.1 hx; rfl) fs σ n lk
  rw [List.length_map] at this
  exact this

theorem r57 (L : List Ver) (h : L.length * 40 ≤ LIM) : res T 57 [slV 3 verV (some L)] = some (.own 3 (L.map verV)) := by
  refine run_res (run_own (fn := g57) rfl rfl (by decide) ?_)
  simp only [g57, b57]
  have hl : (L.map verV).length * 40 ≤ LIM := by simpa [lst] using h
  simp +contextual -implicitDefEqProofs (maxSteps := 2000000) only [↓wP, wQ, wQ1, wQ2, wQ3, wR, boxE, partsOf, ↓reduceIte, Nat.reduceEqDiff, Nat.reduceAdd, Nat.reduceSub, Nat.reduceLeDiff, Nat.reduceLT, Nat.reduceMul, reduceCtorEq, Int.reduceBNe, Int.reduceBEq, Int.reduceLT, Int.reduceLE, Int.reduceGT, slV_some, hl]
  have := giv_row (σ := upd (upd (upd Sto.empty 0 (some (.row 3 []))) 0 none) 1 (some (.row 3 (L.map verV)))) (id := 1) (sz := 3) (xs := L.map verV) (by simp [upd])
    (fun x hx => by obtain ⟨t, -, rfl⟩ := List.mem_map.1 hx; cases ht : t.v <;> simp [verV, elemM, giv, slV, ht])
    (fun x hx c hc => by
      obtain ⟨t, -, rfl⟩ := List.mem_map.1 hx
      simp only [verV, V.cells, List.mem_cons, List.not_mem_nil, or_false] at hc
      rcases hc with rfl | rfl | rfl
      · rfl
      · rfl
      · cases t.v <;> rfl)
  simpa using this

theorem f57 (L : List Ver) (h : L.length * 40 ≤ LIM) (fs : Bool) (σ : Sto) (n lk : Nat) : callE T fs 57 [slV 3 verV (some L)] σ n lk = some (.ref n 0 (L.map verV).length 3, upd σ n (some (.row 3 (L.map verV))), n + 1) :=
  callE_own (by decide) (r57 L h) (by simp [Tr, Tr_slV]) (fun x hx => by obtain ⟨t, -, rfl⟩ := List.mem_map.1 hx; simp [verV, Nw, Nw_slV]) fs σ n lk

theorem set_mid {α : Type} (A B : List α) (x y : α) (j : Nat) (h : A.length = j) : (A ++ x :: B).set j y = A ++ y :: B := by
  subst h
  simp

theorem r46 (L : List Ver) (h : FitC (some L)) (ha : AllS L) : res T 46 [slV 3 verV (some L)] = some (ownC (some L)) := by
  refine run_res (run_own (fn := g46) rfl rfl (by decide) ?_)
  simp only [g46, b46]
  have hl : L.length * 40 ≤ LIM := by simpa [lst] using h.1
  have h57 := f57 L hl
  simp +contextual -implicitDefEqProofs (maxSteps := 2000000) only [↓wP, wQ, wQ1, wQ2, wQ3, wR, boxE, partsOf, ↓reduceIte, Nat.reduceEqDiff, Nat.reduceAdd, Nat.reduceSub, Nat.reduceLeDiff, Nat.reduceLT, Nat.reduceMul, reduceCtorEq, Int.reduceBNe, Int.reduceBEq, Int.reduceLT, Int.reduceLE, Int.reduceGT, h57]
  refine WC_for (L.map verV).length 0 (fun (j : Nat) env σ n => env 3 = .ref 0 0 (L.map verV).length 3 ∧ ∃ ids, σ 0 = some (.row 3 ((L.take j).zipWith erow ids ++ (L.drop j).map verV)) ∧ (0 :: ids).Nodup ∧ (∀ i ∈ ids, 1 ≤ i ∧ i < n) ∧ 1 ≤ n ∧ Vecs σ (L.take j) ids)
    (by unfold LIM at hl; simp; omega) (by decide) (by decide) (fun _ _ => rfl) (fun _ _ _ => rfl) ?_ ?_ _ _ _ rfl rfl ?_
  · intro j env σ n hj h1 h2 ⟨h3, ids, h4, h5, h6, h7, h8⟩
    simp only [vl_tmp] at h2
    have hj' : j < L.length := by simpa using hj
    have hz : ((L.take j).zipWith erow ids).length = j := by rw [zip_len h8, List.length_take]; omega
    have hvs := ha L[j] (List.getElem_mem hj')
    have hx : ((L.take j).zipWith erow ids ++ (L.drop j).map verV)[j]? = some (.agg [.int .u64 L[j].b, .int .u64 L[j].e, slV 1 i32V (some (lst L[j].v))]) := by
      rw [List.getElem?_append_right (by omega), hz, Nat.sub_self, List.getElem?_map, List.getElem?_drop, Nat.add_zero, List.getElem?_eq_getElem hj']
      simp only [Option.map_some, verV]
      rw [← hvs]
    have h51 := f51 (lst L[j].v) (h.2 _ (by rw [lst_some]; exact List.getElem_mem hj'))
    have hn0 : (0 = n) = False := by simp; omega
    have hset : ((L.take j).zipWith erow ids ++ (L.drop j).map verV).set j (.agg [.int .u64 L[j].b, .int .u64 L[j].e, .ref n 0 (lst L[j].v).length 1]) = (L.take (j + 1)).zipWith erow (ids ++ [n]) ++ (L.drop (j + 1)).map verV := by
      rw [List.drop_eq_getElem_cons hj', List.map_cons, set_mid _ _ _ _ j hz, ← List.take_append_getElem hj', List.zipWith_append (by rw [h8.1]), List.append_assoc]
      rfl
    simp +contextual -implicitDefEqProofs (maxSteps := 2000000) only [↓wP, wQ, wQ1, wQ2, wQ3, wR, boxE, partsOf, ↓reduceIte, Nat.reduceEqDiff, Nat.reduceAdd, Nat.reduceSub, Nat.reduceLeDiff, Nat.reduceLT, Nat.reduceMul, reduceCtorEq, Int.reduceBNe, Int.reduceBEq, Int.reduceLT, Int.reduceLE, Int.reduceGT, h1, h2, h3, h4, hj, hx, h51, hn0, hset]
    refine ⟨ids ++ [n], rfl, ?_, ?_, ?_⟩
    · rw [← List.cons_append]
      refine List.nodup_append.2 ⟨h5, by simp, fun a ha' b hb => ?_⟩
      rw [List.mem_singleton.1 hb]
      rcases List.mem_cons.1 ha' with rfl | ha'
      · omega
      · have := (h6 a ha').2; omega
    · intro i hi
      rcases List.mem_append.1 hi with hi | hi
      · have := h6 i hi; omega
      · rw [List.mem_singleton.1 hi]; omega
    · rw [← List.take_append_getElem hj']
      refine Vecs.append (h8.loc fun i hi => ?_) ⟨rfl, fun k x i hx' hi => ?_⟩
      · have := h6 i hi
        have a1 : i ≠ 0 := by omega
        have a2 : i ≠ n := by omega
        simp only [upd_get, a1, a2, if_false]
      · cases k with
        | succ k => simp at hx'
        | zero =>
          simp at hx' hi
          subst hx'; subst hi
          have a1 : n ≠ 0 := by omega
          simp only [upd_get, a1, if_false, if_true]
  · intro env σ n ⟨h3, ids, h4, h5, h6, h7, h8⟩ h1 h2
    rw [List.length_map, List.drop_length, List.take_length, List.map_nil, List.append_nil] at h4
    rw [List.length_map, List.take_length] at h8
    simp +contextual -implicitDefEqProofs (maxSteps := 2000000) only [↓wP, wQ, wQ1, wQ2, wQ3, wR, boxE, partsOf, ↓reduceIte, Nat.reduceEqDiff, Nat.reduceAdd, Nat.reduceSub, Nat.reduceLeDiff, Nat.reduceLT, Nat.reduceMul, reduceCtorEq, Int.reduceBNe, Int.reduceBEq, Int.reduceLT, Int.reduceLE, Int.reduceGT, h3]
    have hc : Chn σ 0 n (.ref 0 0 L.length 3) (some L) := ⟨0, ids, rfl, h4, h5, fun i hi => by
      rcases List.mem_cons.1 hi with rfl | hi
      · omega
      · have := h6 i hi; omega, h8⟩
    have := hc.giv 9
    rw [List.length_map]
    exact ⟨this.1, this.2.1⟩
  · exact ⟨rfl, [], by simp [upd], by simp, by simp, by omega, by simp, fun j x i hx => by simp at hx⟩

theorem r57n : res T 57 [slV 3 verV none] = some .nilS := by
  refine run_res (run_own (fn := g57) rfl rfl (by decide) ?_)
  simp only [g57, b57]
  simp +contextual -implicitDefEqProofs (maxSteps := 2000000) only [↓wP, wQ, wQ1, wQ2, wQ3, wR, boxE, partsOf, ↓reduceIte, Nat.reduceEqDiff, Nat.reduceAdd, Nat.reduceSub, Nat.reduceLeDiff, Nat.reduceLT, Nat.reduceMul, reduceCtorEq, Int.reduceBNe, Int.reduceBEq, Int.reduceLT, Int.reduceLE, Int.reduceGT, slV_none, Option.isNone_none]
  exact ⟨rfl, by simp [gids]⟩
theorem f57n (fs : Bool) (σ : Sto) (n lk : Nat) : callE T fs 57 [slV 3 verV none] σ n lk = some (.nilS, σ, n) := callE_tr (by decide) r57n (by simp [Tr, Tr_slV]) rfl fs σ n lk
theorem r46n : res T 46 [slV 3 verV none] = some .nilS := by
  refine run_res (run_own (fn := g46) rfl rfl (by decide) ?_)
  simp only [g46, b46]
  simp +contextual -implicitDefEqProofs (maxSteps := 2000000) only [↓wP, wQ, wQ1, wQ2, wQ3, wR, boxE, partsOf, ↓reduceIte, Nat.reduceEqDiff, Nat.reduceAdd, Nat.reduceSub, Nat.reduceLeDiff, Nat.reduceLT, Nat.reduceMul, reduceCtorEq, Int.reduceBNe, Int.reduceBEq, Int.reduceLT, Int.reduceLE, Int.reduceGT, f57n]
  refine WC_for 0 0 (fun _ env σ n => env 3 = .nilS) (by omega) (by decide) (by decide) (fun _ _ => rfl) (fun _ _ _ => rfl) (fun j _ _ _ hj => absurd hj (by omega)) ?_ _ _ _ rfl rfl rfl
  intro env σ n h3 h1 h2
  simp +contextual -implicitDefEqProofs (maxSteps := 2000000) only [↓wP, wQ, wQ1, wQ2, wQ3, wR, boxE, partsOf, ↓reduceIte, Nat.reduceEqDiff, Nat.reduceAdd, Nat.reduceSub, Nat.reduceLeDiff, Nat.reduceLT, Nat.reduceMul, reduceCtorEq, Int.reduceBNe, Int.reduceBEq, Int.reduceLT, Int.reduceLE, Int.reduceGT, h3]
  exact ⟨rfl, by simp [gids]⟩

theorem t46 (o : Option (List Ver)) (h : FitC o) (ha : AllS (lst o)) (fs : Bool) (σ : Sto) (n lk : Nat) : callE T fs 46 [slV 3 verV o] σ n lk = some (thaw σ n (ownC o)) := by
  cases o with
  | none => exact callE_thaw (by decide) r46n (by simp [Tr, Tr_slV]) fs σ n lk
  | some L => exact callE_thaw (by decide) (r46 L h ha) (by simp [Tr, Tr_slV]) fs σ n lk

end Go.Q.S4
end

section
/- The open version ends; a version is put behind the others. -/
set_option linter.unusedSimpArgs false
set_option linter.unusedVariables false
namespace Go.Q.S4
open Go.Q

theorem raw50 (σ : Sto) (n id : Nat) (rows : List V) (N : Nat) (b e : Int) (w : V) (ts : Int) (hN : rows.length = N) (hpos : 0 < N) (hlt : N < 9223372036854775808) (hσ : σ id = some (.row 3 rows)) (hx : rows[N - 1]? = some (.agg [.int .u64 b, .int .u64 e, w])) (hw : w.one = true)
    {Q : V → Sto → Nat → Prop} (hQ : Q (.bool (e == 0)) (if e = 0 then upd σ id (some (.row 3 (rows.set (N - 1) (.agg [.int .u64 b, .int .u64 ts, w])))) else σ) n) :
    run T (.raw 50 [.ref id 0 N 3, .int .u64 ts] σ n 0) (memQ Q) := by
  refine run_rawE (fn := g50) rfl rfl ?_
  simp only [g50, b50]
  have h0 : ((N : Int) == 0) = false := by simp; omega
  have hw1 : IntKind.i64.wrap ((N : Int) - 1) = ((N - 1 : Nat) : Int) := by rw [wrap_i64] <;> omega
  have hl : N - 1 < N := by omega
  cases he : e == 0
  · have he' : e ≠ 0 := by simpa using he
    have hd : (e != 0) = true := by simpa using he'
    rw [he, if_neg he'] at hQ
    simp +contextual -implicitDefEqProofs (maxSteps := 2000000) only [↓wP, wQ, wQ1, wQ2, wQ3, wR, boxE, partsOf, ↓reduceIte, Nat.reduceEqDiff, Nat.reduceAdd, Nat.reduceSub, Nat.reduceLeDiff, Nat.reduceLT, Nat.reduceMul, reduceCtorEq, Int.reduceBNe, Int.reduceBEq, Int.reduceLT, Int.reduceLE, Int.reduceGT, h0, hw1, hl, hσ, hx, hd]
    exact hQ
  · have he' : e = 0 := by simpa using he
    subst he'
    rw [he, if_pos rfl] at hQ
    simp +contextual -implicitDefEqProofs (maxSteps := 2000000) only [↓wP, wQ, wQ1, wQ2, wQ3, wR, boxE, partsOf, ↓reduceIte, Nat.reduceEqDiff, Nat.reduceAdd, Nat.reduceSub, Nat.reduceLeDiff, Nat.reduceLT, Nat.reduceMul, reduceCtorEq, Int.reduceBNe, Int.reduceBEq, Int.reduceLT, Int.reduceLE, Int.reduceGT, h0, hw1, hl, hσ, hx, hw]
    exact hQ

theorem raw50n (σ : Sto) (n : Nat) (ts : Int) {Q : V → Sto → Nat → Prop} (hQ : Q (.bool false) σ n) : run T (.raw 50 [.nilS, .int .u64 ts] σ n 0) (memQ Q) := by
  refine run_rawE (fn := g50) rfl rfl ?_
  simp only [g50, b50]
  have h0 : (((0 : Nat) : Int) == 0) = true := rfl
  simp +contextual -implicitDefEqProofs (maxSteps := 2000000) only [↓wP, wQ, wQ1, wQ2, wQ3, wR, boxE, partsOf, ↓reduceIte, Nat.reduceEqDiff, Nat.reduceAdd, Nat.reduceSub, Nat.reduceLeDiff, Nat.reduceLT, Nat.reduceMul, reduceCtorEq, Int.reduceBNe, Int.reduceBEq, Int.reduceLT, Int.reduceLE, Int.reduceGT, h0]
  exact hQ

/-- Is the last one open? -/
def openL (L : List Ver) : Bool := match L.getLast? with
  | some x => x.e == 0
  | none => false
/-- The open one ends. -/
def closeL (ts : Int) (L : List Ver) : List Ver := match L.getLast? with
  | some x => if x.e = 0 then L.dropLast ++ [⟨x.b, ts, x.v⟩] else L
  | none => L

theorem chn50 {σ : Sto} {m n0 n : Nat} {v : V} {o : Option (List Ver)} (h : Chn σ m n0 v o) (hlen : (lst o).length < 9223372036854775808) (ts : Int) {Q : V → Sto → Nat → Prop}
    (hQ : ∀ σ', Chn σ' m n0 v (o.map (closeL ts)) → (∀ i, ¬ (m ≤ i ∧ i < n0) → σ' i = σ i) → Q (.bool (openL (lst o))) σ' n) : run T (.raw 50 [v, .int .u64 ts] σ n 0) (memQ Q) := by
  cases o with
  | none =>
    simp only [Chn] at h
    subst h
    exact raw50n σ n ts (hQ σ rfl (fun _ _ => rfl))
  | some L =>
    obtain ⟨id, ids, rfl, h1, h2, h3, h4⟩ := h
    rcases List.eq_nil_or_concat L with rfl | ⟨A, x, rfl⟩
    · have : run T (.raw 50 [.ref id 0 0 3, .int .u64 ts] σ n 0) (memQ Q) := by
        refine run_rawE (fn := g50) rfl rfl ?_
        simp only [g50, b50]
        have h0 : (((0 : Nat) : Int) == 0) = true := rfl
        simp +contextual -implicitDefEqProofs (maxSteps := 2000000) only [↓wP, wQ, wQ1, wQ2, wQ3, wR, boxE, partsOf, ↓reduceIte, Nat.reduceEqDiff, Nat.reduceAdd, Nat.reduceSub, Nat.reduceLeDiff, Nat.reduceLT, Nat.reduceMul, reduceCtorEq, Int.reduceBNe, Int.reduceBEq, Int.reduceLT, Int.reduceLE, Int.reduceGT, h0]
        exact hQ σ ⟨id, ids, rfl, h1, h2, h3, h4⟩ (fun _ _ => rfl)
      exact this
    · have hlast : (A ++ [x]).getLast? = some x := by simp
      have hidl : ids.length = A.length + 1 := by rw [h4.1]; simp
      obtain ⟨B, i, rfl⟩ : ∃ B i, ids = B ++ [i] := by
        rcases List.eq_nil_or_concat ids with rfl | ⟨B, i, rfl⟩
        · simp at hidl
        · exact ⟨B, i, by simp⟩
      have hB : B.length = A.length := by simpa using hidl
      have hz : (A.zipWith erow B).length = A.length := by simp [hB]
      rw [List.concat_eq_append] at *
      have hrows : (A ++ [x]).zipWith erow (B ++ [i]) = A.zipWith erow B ++ [erow x i] := by rw [List.zipWith_append (by rw [hB])]; rfl
      rw [hrows] at h1
      have hlen' : (A ++ [x]).length = A.length + 1 := by simp
      rw [hlen']
      rw [lst_some] at hlen
      refine raw50 σ n id (A.zipWith erow B ++ [erow x i]) (A.length + 1) x.b x.e (vref i x) ts (by simp [hB]) (by omega) (by rw [hlen'] at hlen; exact hlen) h1 ?_ rfl ?_
      · rw [Nat.add_sub_cancel, List.getElem?_append_right (by omega), hz, Nat.sub_self]; rfl
      · have ho : openL (lst (some (A ++ [x]))) = (x.e == 0) := by simp [openL, lst_some]
        rw [← ho]
        have hc : closeL ts (A ++ [x]) = if x.e = 0 then A ++ [⟨x.b, ts, x.v⟩] else A ++ [x] := by simp [closeL]
        by_cases he : x.e = 0
        · rw [if_pos he] at hc ⊢
          refine hQ _ ?_ ?_
          · rw [Option.map_some, hc]
            refine ⟨id, B ++ [i], by simp, ?_, h2, h3, ?_⟩
            · rw [Nat.add_sub_cancel, set_mid _ _ _ _ _ hz, List.zipWith_append (by rw [hB])]
              simp only [upd_get, if_true]
              rfl
            · refine ⟨by simp [hB], fun j y k hy hk => ?_⟩
              have hkid : k ≠ id := fun e => by
                subst e
                exact (List.nodup_cons.1 h2).1 (List.mem_of_getElem? hk)
              simp only [upd_get, hkid, if_false]
              rw [List.getElem?_append] at hy
              split at hy <;> rename_i hj
              · exact h4.2 j y k (by rw [List.getElem?_append_left hj]; exact hy) hk
              · have hj0 : j - A.length = 0 := by
                  rcases Nat.eq_zero_or_pos (j - A.length) with h | h
                  · exact h
                  · rw [List.getElem?_eq_none (by simp; omega)] at hy; cases hy
                rw [hj0] at hy
                simp only [List.getElem?_cons_zero, Option.some.injEq] at hy
                subst hy
                exact h4.2 j x k (by rw [List.getElem?_append_right (by omega), hj0]; rfl) hk
          · intro k hk
            have : k ≠ id := fun e => hk (by subst e; exact h3 k (by simp))
            simp only [upd_get, this, if_false]
        · rw [if_neg he] at hc ⊢
          refine hQ _ ?_ (fun _ _ => rfl)
          rw [Option.map_some, hc]
          exact ⟨id, B ++ [i], by simp, by rw [h1, hrows], h2, h3, h4⟩

theorem Chn.append {σ : Sto} {m n0 lab i : Nat} {v : V} {o : Option (List Ver)} {y : Ver} (h : Chn σ m n0 v o) (hn : n0 ≤ lab) (hi : n0 ≤ i) (hi' : i < lab) (hmi : m ≤ i)
    (hv : σ i = some (.row 1 ((lst y.v).map i32V))) (hl : ((lst o).length + 1) * 40 ≤ LIM) :
    ∃ v' σ', appendE 3 40 0 v (some [erow y i]) σ lab = some (v', σ', lab + 1) ∧ v'.cells = [v'] ∧ v'.one = true ∧ (∀ σ2 : Sto, (∀ k, (m ≤ k ∧ k < n0) ∨ k = i ∨ k = lab → σ2 k = σ' k) → Chn σ2 m (lab + 1) v' (some (lst o ++ [y]))) ∧ ∀ k, k < lab → ¬ (m ≤ k ∧ k < n0) → σ' k = σ k := by
  cases o with
  | none =>
    simp only [Chn] at h
    subst h
    have h1 : (1 : Nat) * 40 ≤ LIM := by unfold LIM; omega
    rw [appendE_nil]
    simp only [List.isEmpty_cons, Bool.false_eq_true, if_false, List.length_cons, List.length_nil, Nat.zero_add, h1, if_true]
    refine ⟨_, _, rfl, rfl, rfl, fun σ2 hσ2 => ⟨lab, [i], rfl, by rw [hσ2 lab (.inr (.inr rfl))]; simp [upd, lst, erow], by simp; omega, ?_, ?_⟩, fun k hk _ => ?_⟩
    · intro k hk
      simp at hk
      omega
    · refine ⟨rfl, fun j x k hx hk => ?_⟩
      cases j with
      | succ j => simp [lst] at hx
      | zero =>
        simp [lst] at hx hk
        subst hx; subst hk
        have a1 : i ≠ lab := by omega
        rw [hσ2 i (.inr (.inl rfl))]
        simp only [upd_get, a1, if_false]
        exact hv
    · have a1 : k ≠ lab := by omega
      simp only [upd_get, a1, if_false]
  | some L =>
    obtain ⟨id, ids, rfl, h1, h2, h3, h4⟩ := h
    have hz := zip_len h4
    rw [lst_some] at hl
    have hid := h3 id (by simp)
    rw [appendE_ref, h1, appE_row', if_pos ⟨hz.symm, Nat.zero_le _, by simpa using hl⟩]
    refine ⟨_, _, rfl, rfl, rfl, fun σ2 hσ2 => ⟨lab, ids ++ [i], by simp [lst], ?_, ?_, ?_, ?_⟩, fun k hk hk' => ?_⟩
    · rw [hσ2 lab (.inr (.inr rfl))]
      simp only [upd_get, if_true, lst_some]
      rw [List.zipWith_append (by rw [h4.1])]
      rfl
    · refine List.nodup_cons.2 ⟨fun hk => ?_, List.nodup_append.2 ⟨(List.nodup_cons.1 h2).2, by simp, fun a ha b hb => ?_⟩⟩
      · rcases List.mem_append.1 hk with hk | hk
        · have := h3 lab (List.mem_cons_of_mem _ hk); omega
        · simp at hk; omega
      · have := h3 a (List.mem_cons_of_mem _ ha)
        simp at hb
        omega
    · intro k hk
      rcases List.mem_cons.1 hk with rfl | hk
      · omega
      · rcases List.mem_append.1 hk with hk | hk
        · have := h3 k (List.mem_cons_of_mem _ hk); omega
        · simp at hk; omega
    · refine Vecs.append (h4.loc fun k hk => ?_) ⟨rfl, fun j x k hx hk => ?_⟩
      · have h5 := h3 k (List.mem_cons_of_mem _ hk)
        have a1 : k ≠ lab := by omega
        have a2 : k ≠ id := fun e => by subst e; exact (List.nodup_cons.1 h2).1 hk
        rw [hσ2 k (.inl ⟨h5.1, h5.2⟩)]
        simp only [upd_get, a1, a2, if_false]
      · cases j with
        | succ j => simp at hx
        | zero =>
          simp at hx hk
          subst hx; subst hk
          have a1 : i ≠ lab := by omega
          have a2 : i ≠ id := by omega
          rw [hσ2 i (.inr (.inl rfl))]
          simp only [upd_get, a1, a2, if_false]
          exact hv
    · have a1 : k ≠ lab := by omega
      have a2 : k ≠ id := by omega
      simp only [upd_get, a1, a2, if_false]

theorem Chn.len {σ : Sto} {m n : Nat} {v : V} {o : Option (List Ver)} (h : Chn σ m n v o) : lenE v = some (.int .i64 ((lst o).length : Int)) := by
  cases o with
  | none => simp only [Chn] at h; subst h; rfl
  | some L => obtain ⟨id, ids, rfl, -⟩ := h; rfl
theorem Chn.cells {σ : Sto} {m n : Nat} {v : V} {o : Option (List Ver)} (h : Chn σ m n v o) : v.cells = [v] := by
  cases o with
  | none => simp only [Chn] at h; subst h; rfl
  | some L => obtain ⟨id, ids, rfl, -⟩ := h; rfl
theorem Chn.one {σ : Sto} {m n : Nat} {v : V} {o : Option (List Ver)} (h : Chn σ m n v o) : v.one = true := by
  cases o with
  | none => simp only [Chn] at h; subst h; rfl
  | some L => obtain ⟨id, ids, rfl, -⟩ := h; rfl

theorem raw53 {σ : Sto} {m n0 n pc : Nat} {cv : V} {o : Option (List Ver)} (hc : Chn σ m n0 cv o) (hp : σ pc = some (.row 1 [cv])) (hlen : (lst o).length < 9223372036854775808) (ts : Int) {Q : V → Sto → Nat → Prop}
    (hQ : ∀ σ', Chn σ' m n0 cv (o.map (closeL ts)) → (∀ i, ¬ (m ≤ i ∧ i < n0) → σ' i = σ i) → Q (.int .i64 (if openL (lst o) = true then 0 else 4)) σ' n) :
    run T (.raw 53 [.ptr pc 1 0 0, .box [.int .u64 ts]] σ n 0) (memQ Q) := by
  refine run_rawE (fn := g53) rfl rfl ?_
  simp only [g53, b53]
  have hcl := hc.cells
  simp +contextual -implicitDefEqProofs (maxSteps := 2000000) only [↓wP, wQ, wQ1, wQ2, wQ3, wR, boxE, partsOf, ↓reduceIte, Nat.reduceEqDiff, Nat.reduceAdd, Nat.reduceSub, Nat.reduceLeDiff, Nat.reduceLT, Nat.reduceMul, reduceCtorEq, Int.reduceBNe, Int.reduceBEq, Int.reduceLT, Int.reduceLE, Int.reduceGT, hp, hcl]
  refine stepW_raw (by decide) (chn50 hc hlen ts fun σ' h1 h2 => ?_)
  have hQ := hQ σ' h1 h2
  cases ho : openL (lst o) <;> rw [ho] at hQ <;> simp +contextual -implicitDefEqProofs (maxSteps := 2000000) only [↓wP, wQ, wQ1, wQ2, wQ3, wR, boxE, partsOf, ↓reduceIte, Nat.reduceEqDiff, Nat.reduceAdd, Nat.reduceSub, Nat.reduceLeDiff, Nat.reduceLT, Nat.reduceMul, reduceCtorEq, Int.reduceBNe, Int.reduceBEq, Int.reduceLT, Int.reduceLE, Int.reduceGT] <;> exact hQ

def delO (o : Option (List Ver)) (ts : Int) : Option (List Ver) := if okC o = true ∧ lastC (lst o) < ts ∧ ts ≤ 1099511627776 ∧ openL (lst o) = true then o.map (closeL ts) else none
def delE (o : Option (List Ver)) (ts : Int) : Int := if okC o = false then 180 else if ts ≤ lastC (lst o) ∨ 1099511627776 < ts then 181 else if openL (lst o) = true then 0 else 4

/-- A chain and an error are handed back. -/
theorem giv_pair {σ : Sto} {m n : Nat} {v : V} {o : Option (List Ver)} (h : Chn σ m n v o) (e : Int) : giv σ 12 (.tup [v, .int .i64 e]) = some (.tup [ownC o, .int .i64 e]) ∧ (gids σ 12 (.tup [v, .int .i64 e])).Nodup := by
  have h1 := h.giv 8
  constructor
  · simp only [giv, List.mapM_cons, List.mapM_nil, h1.1]
    rfl
  · simp only [gids, List.flatMap_cons, List.flatMap_nil, List.append_nil]
    exact h1.2.1

theorem r48 (o : Option (List Ver)) (ts : Int) (hs : Sm o) (hf : FitC o) (ha : AllS (lst o)) : res T 48 [slV 3 verV o, .int .u64 ts, .fn 53 [.box [.int .u64 ts]]] = some (.tup [ownC (delO o ts), .int .i64 (delE o ts)]) := by
  refine run_res (run_own (fn := g48) rfl rfl (by decide) ?_)
  simp only [g48, b48]
  have h11 := f11 o hs
  have h39 := f39 o hs
  have hm : T.mode 53 = .raw := by decide
  cases hc : okC o
  · have e1 : delO o ts = none := by simp [delO, hc]
    have e2 : delE o ts = 180 := by simp [delE, hc]
    rw [e1, e2]
    simp +contextual -implicitDefEqProofs (maxSteps := 2000000) only [↓wP, wQ, wQ1, wQ2, wQ3, wR, boxE, partsOf, ↓reduceIte, Nat.reduceEqDiff, Nat.reduceAdd, Nat.reduceSub, Nat.reduceLeDiff, Nat.reduceLT, Nat.reduceMul, reduceCtorEq, Int.reduceBNe, Int.reduceBEq, Int.reduceLT, Int.reduceLE, Int.reduceGT, h11, hc]
    exact giv_pair (o := none) (m := 0) (n := 0) rfl 180
  · by_cases ht : ts ≤ lastC (lst o) ∨ 1099511627776 < ts
    · have e1 : delO o ts = none := by unfold delO; rw [if_neg]; omega
      have e2 : delE o ts = 181 := by simp [delE, hc, ht]
      have hd : (decide (ts ≤ lastC (lst o)) || decide (1099511627776 < ts)) = true := by simpa using ht
      rw [e1, e2]
      simp +contextual -implicitDefEqProofs (maxSteps := 2000000) only [↓wP, wQ, wQ1, wQ2, wQ3, wR, boxE, partsOf, ↓reduceIte, Nat.reduceEqDiff, Nat.reduceAdd, Nat.reduceSub, Nat.reduceLeDiff, Nat.reduceLT, Nat.reduceMul, reduceCtorEq, Int.reduceBNe, Int.reduceBEq, Int.reduceLT, Int.reduceLE, Int.reduceGT, h11, h39, hc, hd]
      exact giv_pair (o := none) (m := 0) (n := 0) rfl 181
    · have hd : (decide (ts ≤ lastC (lst o)) || decide (1099511627776 < ts)) = false := by simp; omega
      obtain ⟨v', σ', n', h1, h2, h3, h4⟩ := thaw_ownC Sto.empty 0 o
      have h46 := t46 o hf ha true Sto.empty 0 0
      rw [h1] at h46
      have hcl := h2.cells
      have hon := h2.one
      have hsp : spliceC .nilS 0 [v'] = v' := rfl
      simp +contextual -implicitDefEqProofs (maxSteps := 2000000) only [↓wP, wQ, wQ1, wQ2, wQ3, wR, boxE, partsOf, ↓reduceIte, Nat.reduceEqDiff, Nat.reduceAdd, Nat.reduceSub, Nat.reduceLeDiff, Nat.reduceLT, Nat.reduceMul, reduceCtorEq, Int.reduceBNe, Int.reduceBEq, Int.reduceLT, Int.reduceLE, Int.reduceGT, h11, h39, hc, hd, h46, hcl, hon]
      have h2' : Chn (upd (upd σ' n' (some (.row 1 [.nilS]))) n' (some (.row 1 [v']))) 0 n' v' o := h2.loc (fun i _ hi => by
        have : i ≠ n' := by omega
        simp only [upd_get, this, if_false]) (Nat.le_refl _) (Nat.le_refl _)
      refine stepW_raw hm (raw53 h2' (by simp [upd]) hs.1 ts fun σ2 k1 k2 => ?_)
      have hp : σ2 n' = some (.row 1 [v']) := by rw [k2 n' (by omega)]; simp [upd]
      cases ho : openL (lst o)
      · have e1 : delO o ts = none := by unfold delO; rw [if_neg]; simp [ho]
        have e2 : delE o ts = 4 := by simp [delE, hc, ht, ho]
        rw [e1, e2]
        simp +contextual -implicitDefEqProofs (maxSteps := 2000000) only [↓wP, wQ, wQ1, wQ2, wQ3, wR, boxE, partsOf, ↓reduceIte, Nat.reduceEqDiff, Nat.reduceAdd, Nat.reduceSub, Nat.reduceLeDiff, Nat.reduceLT, Nat.reduceMul, reduceCtorEq, Int.reduceBNe, Int.reduceBEq, Int.reduceLT, Int.reduceLE, Int.reduceGT]
        exact giv_pair (o := none) (m := 0) (n := 0) rfl 4
      · have e1 : delO o ts = o.map (closeL ts) := by unfold delO; rw [if_pos]; exact ⟨hc, by omega, by omega, ho⟩
        have e2 : delE o ts = 0 := by simp [delE, hc, ht, ho]
        rw [e1, e2]
        simp +contextual -implicitDefEqProofs (maxSteps := 2000000) only [↓wP, wQ, wQ1, wQ2, wQ3, wR, boxE, partsOf, ↓reduceIte, Nat.reduceEqDiff, Nat.reduceAdd, Nat.reduceSub, Nat.reduceLeDiff, Nat.reduceLT, Nat.reduceMul, reduceCtorEq, Int.reduceBNe, Int.reduceBEq, Int.reduceLT, Int.reduceLE, Int.reduceGT, hp, hcl]
        exact giv_pair k1 0

end Go.Q.S4
end

section
/- A version is put behind the others. -/
set_option linter.unusedSimpArgs false
set_option linter.unusedVariables false
namespace Go.Q.S4
open Go.Q

def dimP (o : Option (List Ver)) (l : List Int) : Int := match lst o with
  | [] => (l.length : Int)
  | x :: _ => ((lst x.v).length : Int)
def putN (o : Option (List Ver)) (l : List Int) : Int := if okV (some l) = true then (if (l.length : Int) = dimP o l then (if (lst o).length = 96 then 6 else 0) else 151) else 150

theorem len_cases {σ : Sto} {m n : Nat} {v : V} {o : Option (List Ver)} (h : Chn σ m n v o) (hne : 0 < (lst o).length) :
    ∃ (id N : Nat) (x : Ver) (i : Nat) (rows : List V), v = .ref id 0 N 3 ∧ 0 < N ∧ σ id = some (.row 3 rows) ∧ rows[0]? = some (.agg [.int .u64 x.b, .int .u64 x.e, .ref i 0 (lst x.v).length 1]) ∧ ∀ l, dimP o l = ((lst x.v).length : Int) := by
  cases o with
  | none => simp [lst] at hne
  | some L =>
    obtain ⟨id, ids, rfl, h1, h2, h3, h4⟩ := h
    cases L with
    | nil => simp [lst] at hne
    | cons x L =>
      cases ids with
      | nil => simp [Vecs] at h4
      | cons i ids => exact ⟨id, _, x, i, _, rfl, by simp, h1, rfl, fun l => rfl⟩

theorem raw49 {σ : Sto} {m n0 n pc : Nat} {cv : V} {o : Option (List Ver)} (hc : Chn σ m n0 cv o) (hmn : m ≤ n0) (hn : n0 ≤ n) (hpn : pc < n) (hpc : ¬ (m ≤ pc ∧ pc < n0)) (hp : σ pc = some (.row 1 [cv]))
    (hlen : (lst o).length < 9223372036854775808) (hf : ((lst o).length + 1) * 40 ≤ LIM) (l : List Int) (hl : l.length * 4 ≤ LIM) (ts : Int) {Q : V → Sto → Nat → Prop}
    (hQ0 : putN o l ≠ 0 → Q (.int .i64 (putN o l)) σ n)
    (hQ1 : putN o l = 0 → ∀ σ' n' cv', σ' pc = some (.row 1 [cv']) → Chn σ' m n' cv' (some (lst (o.map (closeL ts)) ++ [⟨ts, 0, some l⟩])) → Q (.int .i64 0) σ' n') :
    run T (.raw 49 [.ptr pc 1 0 0, .box [slV 1 i32V (some l)], .box [.int .u64 ts]] σ n 0) (memQ Q) := by
  refine run_rawE (fn := g49) rfl rfl ?_
  simp only [g49, b49]
  have hcl := hc.cells
  have hle := hc.len
  have h29 := f29 (some l) (dimP o l) (by rw [lst_some]; unfold LIM at hl; omega)
  have hm50 : T.mode 50 = .raw := by decide
  by_cases h0 : 0 < (lst o).length
  · obtain ⟨id, N, x, i, rows, hcv, hN, r1, r2, r3⟩ := len_cases hc h0
    have hia : iaddrE 3 cv (.int .i64 0) = some (.ptr id 3 0 0) := by rw [hcv, iaddrE_r0, if_pos hN]
    have hd : decide ((0 : Int) < ((lst o).length : Int)) = true := by simp; omega
    have hdim := r3 l
    rw [hdim] at h29
    by_cases hok : okV (some l) = true
    · by_cases hdm : (l.length : Int) = ((lst x.v).length : Int)
      · by_cases h96 : (lst o).length = 96
        · have hp6 : putN o l = 6 := by simp [putN, hok, hdim, hdm, h96]
          have hd6 : (((lst o).length : Int) == 96) = true := by simp; omega
          rw [hp6] at hQ0
          simp +contextual -implicitDefEqProofs (maxSteps := 2000000) only [↓wP, wQ, wQ1, wQ2, wQ3, wR, boxE, partsOf, ↓reduceIte, Nat.reduceEqDiff, Nat.reduceAdd, Nat.reduceSub, Nat.reduceLeDiff, Nat.reduceLT, Nat.reduceMul, reduceCtorEq, Int.reduceBNe, Int.reduceBEq, Int.reduceLT, Int.reduceLE, Int.reduceGT, hp, hcl, hle, hd, lst_some, hia, r1, r2, h29, hok, hdm, hd6]
          exact hQ0 (by decide)
        · have hp0 : putN o l = 0 := by simp [putN, hok, hdim, hdm, h96]
          have hd6 : (((lst o).length : Int) == 96) = false := by simp; omega
          have hQ1 := hQ1 hp0
          simp +contextual -implicitDefEqProofs (maxSteps := 2000000) only [↓wP, wQ, wQ1, wQ2, wQ3, wR, boxE, partsOf, ↓reduceIte, Nat.reduceEqDiff, Nat.reduceAdd, Nat.reduceSub, Nat.reduceLeDiff, Nat.reduceLT, Nat.reduceMul, reduceCtorEq, Int.reduceBNe, Int.reduceBEq, Int.reduceLT, Int.reduceLE, Int.reduceGT, hp, hcl, hle, hd, lst_some, hia, r1, r2, h29, hok, hdm, hd6]
          refine stepW_raw hm50 (chn50 hc hlen ts fun σ1 k1 k2 => ?_)
          have hp1 : σ1 pc = some (.row 1 [cv]) := by rw [k2 pc hpc, hp]
          have h51 := f51 l hl
          have hB := big_le
          have x1 : hide σ1 n n [0, 1] pc = σ1 pc := hide_low σ1 n n _ hpn (Nat.le_refl _)
          have x2 : (n + 1 ≤ n + BIG) = True := by simp; omega
          have x3 : (n + (BIG * 1 + 1) ≤ n + (BIG * 1 + BIG)) = True := by simp; omega
          have x4 : ∀ a b : Sto, merge a b (n + BIG * 1) (n + BIG * 1) = b (n + BIG * 1) := fun a b => merge_in a b _ (Nat.le_refl _) (by omega)
          simp +contextual -implicitDefEqProofs (maxSteps := 2000000) only [↓wP, wQ, wQ1, wQ2, wQ3, wR, boxE, partsOf, ↓reduceIte, Nat.reduceEqDiff, Nat.reduceAdd, Nat.reduceSub, Nat.reduceLeDiff, Nat.reduceLT, Nat.reduceMul, reduceCtorEq, Int.reduceBNe, Int.reduceBEq, Int.reduceLT, Int.reduceLE, Int.reduceGT, hp1, hcl, h51, x1, x2, x3, x4]
          have k3 : Chn (merge (merge σ1 (upd σ1 n (some (.row 1 (l.map i32V)))) n) (upd (merge σ1 (upd σ1 n (some (.row 1 (l.map i32V)))) n) (n + BIG * 1) (some (.row 3 [.agg [.int .u64 ts, .int .u64 0, .ref n 0 l.length 1]]))) (n + BIG * 1)) m n0 cv (o.map (closeL ts)) := by
            refine k1.loc (fun i _ hi => ?_) (Nat.le_refl _) (Nat.le_refl _)
            rw [merge_low _ _ _ (by omega), merge_low _ _ _ (by omega)]
          have hlc : (lst (o.map (closeL ts))).length = (lst o).length := by
            cases o with
            | none => rfl
            | some L =>
              simp only [Option.map_some, lst_some, closeL]
              rcases List.eq_nil_or_concat L with rfl | ⟨A, x, rfl⟩
              · rfl
              · rw [List.concat_eq_append]
                simp only [List.getLast?_append, List.getLast?_singleton, Option.some_or]
                split <;> simp
          obtain ⟨v2, σ2, a1, b1, b2, a2, a3⟩ := k3.append (y := ⟨ts, 0, some l⟩) (lab := n + BIG * 2) (i := n) (by omega) (by omega) (by omega) (by omega) (by
            rw [merge_low _ _ _ (by omega), merge_in _ _ _ (Nat.le_refl _) (by omega)]; simp [upd, lst]) (by rw [hlc]; exact hf)
          have a1' : appendE 3 40 0 cv (some [.agg [.int .u64 ts, .int .u64 0, .ref n 0 l.length 1]]) _ _ = _ := a1
          have x5 : (n + (BIG * 2 + 1) ≤ n + (BIG * 2 + BIG)) = True := by simp; omega
          have a4 := a3 pc (by omega) hpc
          rw [merge_low _ _ _ (by omega), merge_low _ _ _ (by omega), hp1] at a4
          have b3 := spl_one hc.one 0 v2
          simp +contextual -implicitDefEqProofs (maxSteps := 2000000) only [↓wP, wQ, wQ1, wQ2, wQ3, wR, boxE, partsOf, ↓reduceIte, Nat.reduceEqDiff, Nat.reduceAdd, Nat.reduceSub, Nat.reduceLeDiff, Nat.reduceLT, Nat.reduceMul, reduceCtorEq, Int.reduceBNe, Int.reduceBEq, Int.reduceLT, Int.reduceLE, Int.reduceGT, a1', x5, a4, b1, b2, b3]
          refine hQ1 _ _ v2 (by simp [upd]) ((a2 _ fun k hk => ?_).loc (fun _ _ _ => rfl) (Nat.le_refl _) (by omega))
          have : k ≠ pc := by omega
          simp only [upd_get, this, if_false]
      · have hp6 : putN o l = 151 := by simp [putN, hok, hdim, hdm]
        rw [hp6] at hQ0
        simp +contextual -implicitDefEqProofs (maxSteps := 2000000) only [↓wP, wQ, wQ1, wQ2, wQ3, wR, boxE, partsOf, ↓reduceIte, Nat.reduceEqDiff, Nat.reduceAdd, Nat.reduceSub, Nat.reduceLeDiff, Nat.reduceLT, Nat.reduceMul, reduceCtorEq, Int.reduceBNe, Int.reduceBEq, Int.reduceLT, Int.reduceLE, Int.reduceGT, hp, hcl, hle, hd, lst_some, hia, r1, r2, h29, hok, hdm]
        exact hQ0 (by decide)
    · have hok' : okV (some l) = false := by simpa using hok
      have hp6 : putN o l = 150 := by simp [putN, hok']
      rw [hp6] at hQ0
      simp +contextual -implicitDefEqProofs (maxSteps := 2000000) only [↓wP, wQ, wQ1, wQ2, wQ3, wR, boxE, partsOf, ↓reduceIte, Nat.reduceEqDiff, Nat.reduceAdd, Nat.reduceSub, Nat.reduceLeDiff, Nat.reduceLT, Nat.reduceMul, reduceCtorEq, Int.reduceBNe, Int.reduceBEq, Int.reduceLT, Int.reduceLE, Int.reduceGT, hp, hcl, hle, hd, lst_some, hia, r1, r2, h29, hok']
      exact hQ0 (by decide)
  · have hd : decide ((0 : Int) < ((lst o).length : Int)) = false := decide_eq_false (by omega)
    have hdim : dimP o l = (l.length : Int) := by
      unfold dimP
      rw [List.length_eq_zero_iff.1 (show (lst o).length = 0 by omega)]
    rw [hdim] at h29
    by_cases hok : okV (some l) = true
    · by_cases hdm : (l.length : Int) = (l.length : Int)
      · by_cases h96 : (lst o).length = 96
        · have hp6 : putN o l = 6 := by simp [putN, hok, hdim, hdm, h96]
          have hd6 : (((lst o).length : Int) == 96) = true := by simp; omega
          rw [hp6] at hQ0
          simp +contextual -implicitDefEqProofs (maxSteps := 2000000) only [↓wP, wQ, wQ1, wQ2, wQ3, wR, boxE, partsOf, ↓reduceIte, Nat.reduceEqDiff, Nat.reduceAdd, Nat.reduceSub, Nat.reduceLeDiff, Nat.reduceLT, Nat.reduceMul, reduceCtorEq, Int.reduceBNe, Int.reduceBEq, Int.reduceLT, Int.reduceLE, Int.reduceGT, hp, hcl, hle, hd, lst_some, hdim, h29, hok, hdm, hd6]
          exact hQ0 (by decide)
        · have hp0 : putN o l = 0 := by simp [putN, hok, hdim, hdm, h96]
          have hd6 : (((lst o).length : Int) == 96) = false := by simp; omega
          have hQ1 := hQ1 hp0
          simp +contextual -implicitDefEqProofs (maxSteps := 2000000) only [↓wP, wQ, wQ1, wQ2, wQ3, wR, boxE, partsOf, ↓reduceIte, Nat.reduceEqDiff, Nat.reduceAdd, Nat.reduceSub, Nat.reduceLeDiff, Nat.reduceLT, Nat.reduceMul, reduceCtorEq, Int.reduceBNe, Int.reduceBEq, Int.reduceLT, Int.reduceLE, Int.reduceGT, hp, hcl, hle, hd, lst_some, hdim, h29, hok, hdm, hd6]
          refine stepW_raw hm50 (chn50 hc hlen ts fun σ1 k1 k2 => ?_)
          have hp1 : σ1 pc = some (.row 1 [cv]) := by rw [k2 pc hpc, hp]
          have h51 := f51 l hl
          have hB := big_le
          have x1 : hide σ1 n n [0, 1] pc = σ1 pc := hide_low σ1 n n _ hpn (Nat.le_refl _)
          have x2 : (n + 1 ≤ n + BIG) = True := by simp; omega
          have x3 : (n + (BIG * 1 + 1) ≤ n + (BIG * 1 + BIG)) = True := by simp; omega
          have x4 : ∀ a b : Sto, merge a b (n + BIG * 1) (n + BIG * 1) = b (n + BIG * 1) := fun a b => merge_in a b _ (Nat.le_refl _) (by omega)
          simp +contextual -implicitDefEqProofs (maxSteps := 2000000) only [↓wP, wQ, wQ1, wQ2, wQ3, wR, boxE, partsOf, ↓reduceIte, Nat.reduceEqDiff, Nat.reduceAdd, Nat.reduceSub, Nat.reduceLeDiff, Nat.reduceLT, Nat.reduceMul, reduceCtorEq, Int.reduceBNe, Int.reduceBEq, Int.reduceLT, Int.reduceLE, Int.reduceGT, hp1, hcl, h51, x1, x2, x3, x4]
          have k3 : Chn (merge (merge σ1 (upd σ1 n (some (.row 1 (l.map i32V)))) n) (upd (merge σ1 (upd σ1 n (some (.row 1 (l.map i32V)))) n) (n + BIG * 1) (some (.row 3 [.agg [.int .u64 ts, .int .u64 0, .ref n 0 l.length 1]]))) (n + BIG * 1)) m n0 cv (o.map (closeL ts)) := by
            refine k1.loc (fun i _ hi => ?_) (Nat.le_refl _) (Nat.le_refl _)
            rw [merge_low _ _ _ (by omega), merge_low _ _ _ (by omega)]
          have hlc : (lst (o.map (closeL ts))).length = (lst o).length := by
            cases o with
            | none => rfl
            | some L =>
              simp only [Option.map_some, lst_some, closeL]
              rcases List.eq_nil_or_concat L with rfl | ⟨A, x, rfl⟩
              · rfl
              · rw [List.concat_eq_append]
                simp only [List.getLast?_append, List.getLast?_singleton, Option.some_or]
                split <;> simp
          obtain ⟨v2, σ2, a1, b1, b2, a2, a3⟩ := k3.append (y := ⟨ts, 0, some l⟩) (lab := n + BIG * 2) (i := n) (by omega) (by omega) (by omega) (by omega) (by
            rw [merge_low _ _ _ (by omega), merge_in _ _ _ (Nat.le_refl _) (by omega)]; simp [upd, lst]) (by rw [hlc]; exact hf)
          have a1' : appendE 3 40 0 cv (some [.agg [.int .u64 ts, .int .u64 0, .ref n 0 l.length 1]]) _ _ = _ := a1
          have x5 : (n + (BIG * 2 + 1) ≤ n + (BIG * 2 + BIG)) = True := by simp; omega
          have a4 := a3 pc (by omega) hpc
          rw [merge_low _ _ _ (by omega), merge_low _ _ _ (by omega), hp1] at a4
          have b3 := spl_one hc.one 0 v2
          simp +contextual -implicitDefEqProofs (maxSteps := 2000000) only [↓wP, wQ, wQ1, wQ2, wQ3, wR, boxE, partsOf, ↓reduceIte, Nat.reduceEqDiff, Nat.reduceAdd, Nat.reduceSub, Nat.reduceLeDiff, Nat.reduceLT, Nat.reduceMul, reduceCtorEq, Int.reduceBNe, Int.reduceBEq, Int.reduceLT, Int.reduceLE, Int.reduceGT, a1', x5, a4, b1, b2, b3]
          refine hQ1 _ _ v2 (by simp [upd]) ((a2 _ fun k hk => ?_).loc (fun _ _ _ => rfl) (Nat.le_refl _) (by omega))
          have : k ≠ pc := by omega
          simp only [upd_get, this, if_false]
      · exact absurd rfl hdm
    · have hok' : okV (some l) = false := by simpa using hok
      have hp6 : putN o l = 150 := by simp [putN, hok']
      rw [hp6] at hQ0
      simp +contextual -implicitDefEqProofs (maxSteps := 2000000) only [↓wP, wQ, wQ1, wQ2, wQ3, wR, boxE, partsOf, ↓reduceIte, Nat.reduceEqDiff, Nat.reduceAdd, Nat.reduceSub, Nat.reduceLeDiff, Nat.reduceLT, Nat.reduceMul, reduceCtorEq, Int.reduceBNe, Int.reduceBEq, Int.reduceLT, Int.reduceLE, Int.reduceGT, hp, hcl, hle, hd, lst_some, hdim, h29, hok']
      exact hQ0 (by decide)

end Go.Q.S4
end

section
/- Put and Del, and what is done by an op. -/
set_option linter.unusedSimpArgs false
set_option linter.unusedVariables false
namespace Go.Q.S4
open Go.Q

def putC (o : Option (List Ver)) (ts : Int) (l : List Int) : Option (List Ver) :=
  if okC o = true ∧ lastC (lst o) < ts ∧ ts ≤ 1099511627776 ∧ putN o l = 0 then some (lst (o.map (closeL ts)) ++ [⟨ts, 0, some l⟩]) else none
def putE (o : Option (List Ver)) (ts : Int) (l : List Int) : Int := if okC o = false then 180 else if ts ≤ lastC (lst o) ∨ 1099511627776 < ts then 181 else putN o l

theorem r48p (o : Option (List Ver)) (ts : Int) (l : List Int) (hs : Sm o) (hf : FitC o) (hf' : ((lst o).length + 1) * 40 ≤ LIM) (hl : l.length * 4 ≤ LIM) (ha : AllS (lst o)) :
    res T 48 [slV 3 verV o, .int .u64 ts, .fn 49 [.box [slV 1 i32V (some l)], .box [.int .u64 ts]]] = some (.tup [ownC (putC o ts l), .int .i64 (putE o ts l)]) := by
  refine run_res (run_own (fn := g48) rfl rfl (by decide) ?_)
  simp only [g48, b48]
  have h11 := f11 o hs
  have h39 := f39 o hs
  have hm : T.mode 49 = .raw := by decide
  cases hc : okC o
  · have e1 : putC o ts l = none := by simp [putC, hc]
    have e2 : putE o ts l = 180 := by simp [putE, hc]
    rw [e1, e2]
    simp +contextual -implicitDefEqProofs (maxSteps := 2000000) only [↓wP, wQ, wQ1, wQ2, wQ3, wR, boxE, partsOf, ↓reduceIte, Nat.reduceEqDiff, Nat.reduceAdd, Nat.reduceSub, Nat.reduceLeDiff, Nat.reduceLT, Nat.reduceMul, reduceCtorEq, Int.reduceBNe, Int.reduceBEq, Int.reduceLT, Int.reduceLE, Int.reduceGT, h11, hc]
    exact giv_pair (o := none) (m := 0) (n := 0) rfl 180
  · by_cases ht : ts ≤ lastC (lst o) ∨ 1099511627776 < ts
    · have e1 : putC o ts l = none := by unfold putC; rw [if_neg]; omega
      have e2 : putE o ts l = 181 := by simp [putE, hc, ht]
      have hd : (decide (ts ≤ lastC (lst o)) || decide (1099511627776 < ts)) = true := by simpa using ht
      rw [e1, e2]
      simp +contextual -implicitDefEqProofs (maxSteps := 2000000) only [↓wP, wQ, wQ1, wQ2, wQ3, wR, boxE, partsOf, ↓reduceIte, Nat.reduceEqDiff, Nat.reduceAdd, Nat.reduceSub, Nat.reduceLeDiff, Nat.reduceLT, Nat.reduceMul, reduceCtorEq, Int.reduceBNe, Int.reduceBEq, Int.reduceLT, Int.reduceLE, Int.reduceGT, h11, h39, hc, hd]
      exact giv_pair (o := none) (m := 0) (n := 0) rfl 181
    · have hd : (decide (ts ≤ lastC (lst o)) || decide (1099511627776 < ts)) = false := by simp; omega
      obtain ⟨v', σ', n', h1, h2, h3, h4⟩ := thaw_ownC Sto.empty 0 o
      have h46 := t46 o hf ha true Sto.empty 0 0
      rw [h1] at h46
      have hcl := h2.cells
      have hon := h2.one
      have e2 : putE o ts l = putN o l := by simp [putE, hc, ht]
      rw [e2]
      simp +contextual -implicitDefEqProofs (maxSteps := 2000000) only [↓wP, wQ, wQ1, wQ2, wQ3, wR, boxE, partsOf, ↓reduceIte, Nat.reduceEqDiff, Nat.reduceAdd, Nat.reduceSub, Nat.reduceLeDiff, Nat.reduceLT, Nat.reduceMul, reduceCtorEq, Int.reduceBNe, Int.reduceBEq, Int.reduceLT, Int.reduceLE, Int.reduceGT, h11, h39, hc, hd, h46, hcl, hon]
      have h2' : Chn (upd (upd σ' n' (some (.row 1 [.nilS]))) n' (some (.row 1 [v']))) 0 n' v' o := h2.loc (fun i _ hi => by
        have : i ≠ n' := by omega
        simp only [upd_get, this, if_false]) (Nat.le_refl _) (Nat.le_refl _)
      refine stepW_raw hm (raw49 h2' (Nat.zero_le _) (by omega) (by omega) (by omega) (by simp [upd]) hs.1 hf' l hl ts (fun hne => ?_) (fun h0 σ2 n2 cv k1 k2 => ?_))
      · have e1 : putC o ts l = none := by unfold putC; rw [if_neg]; omega
        have hd2 : (putN o l != 0) = true := by simpa using hne
        rw [e1]
        simp +contextual -implicitDefEqProofs (maxSteps := 2000000) only [↓wP, wQ, wQ1, wQ2, wQ3, wR, boxE, partsOf, ↓reduceIte, Nat.reduceEqDiff, Nat.reduceAdd, Nat.reduceSub, Nat.reduceLeDiff, Nat.reduceLT, Nat.reduceMul, reduceCtorEq, Int.reduceBNe, Int.reduceBEq, Int.reduceLT, Int.reduceLE, Int.reduceGT, hd2]
        exact giv_pair (o := none) (m := 0) (n := 0) rfl _
      · have e1 : putC o ts l = some (lst (o.map (closeL ts)) ++ [⟨ts, 0, some l⟩]) := by unfold putC; rw [if_pos]; exact ⟨hc, by omega, by omega, h0⟩
        have hcv := k2.cells
        rw [e1, h0]
        simp +contextual -implicitDefEqProofs (maxSteps := 2000000) only [↓wP, wQ, wQ1, wQ2, wQ3, wR, boxE, partsOf, ↓reduceIte, Nat.reduceEqDiff, Nat.reduceAdd, Nat.reduceSub, Nat.reduceLeDiff, Nat.reduceLT, Nat.reduceMul, reduceCtorEq, Int.reduceBNe, Int.reduceBEq, Int.reduceLT, Int.reduceLE, Int.reduceGT, k1, hcv]
        exact giv_pair k2 0

theorem flat_ownC (o : Option (List Ver)) : flat (ownC o) = true := by
  cases o with
  | none => rfl
  | some L =>
    simp only [ownC, flat]
    induction L with
    | nil => rfl
    | cons x L ih =>
      rw [List.map_cons, flatL, ih, Bool.and_true]
      simp only [ownVer, vown, flat, flatL, Bool.true_and, Bool.and_true]
      induction lst x.v with
      | nil => rfl
      | cons y l ih2 => rw [List.map_cons, flatL, ih2]; rfl
theorem bk_pair (o : Option (List Ver)) (e : Int) (fs : Bool) (D : List Nat) (σ : Sto) (n lk : Nat) : backE fs D (.tup [ownC o, .int .i64 e]) σ n lk = some (thaw σ n (.tup [ownC o, .int .i64 e])) :=
  backE_flat (by simp only [flat, flatL, flat_ownC, Bool.and_self]) fs D σ n lk

theorem r28 (o : Option (List Ver)) (ts : Int) (l : List Int) (hs : Sm o) (hf : FitC o) (hf' : ((lst o).length + 1) * 40 ≤ LIM) (hl : l.length * 4 ≤ LIM) (ha : AllS (lst o)) : res T 28 [slV 3 verV o, .int .u64 ts, slV 1 i32V (some l)] = some (.tup [ownC (putC o ts l), .int .i64 (putE o ts l)]) := by
  refine run_res (run_own (fn := g28) rfl rfl (by decide) ?_)
  simp only [g28, b28]
  have h48 := r48p o ts l hs hf hf' hl ha
  have hm : T.mode 48 ≠ .raw := by decide
  obtain ⟨v', σ', n', h1, h2, h3, h4⟩ := thaw_ownC (upd (upd Sto.empty 0 (some (.row 1 [.int .u64 ts]))) 1 (some (.row 1 [slV 1 i32V (some l)]))) 2 (putC o ts l)
  simp +contextual -implicitDefEqProofs (maxSteps := 2000000) only [↓wP, wQ, wQ1, wQ2, wQ3, wR, boxE, partsOf, ↓reduceIte, Nat.reduceEqDiff, Nat.reduceAdd, Nat.reduceSub, Nat.reduceLeDiff, Nat.reduceLT, Nat.reduceMul, reduceCtorEq, Int.reduceBNe, Int.reduceBEq, Int.reduceLT, Int.reduceLE, Int.reduceGT, callE_eq hm, h48, bk_pair, h1]
  exact giv_pair h2 _

theorem r33 (o : Option (List Ver)) (ts : Int) (hs : Sm o) (hf : FitC o) (ha : AllS (lst o)) : res T 33 [slV 3 verV o, .int .u64 ts] = some (.tup [ownC (delO o ts), .int .i64 (delE o ts)]) := by
  refine run_res (run_own (fn := g33) rfl rfl (by decide) ?_)
  simp only [g33, b33]
  have h48 := r48 o ts hs hf ha
  have hm : T.mode 48 ≠ .raw := by decide
  obtain ⟨v', σ', n', h1, h2, h3, h4⟩ := thaw_ownC (upd Sto.empty 0 (some (.row 1 [.int .u64 ts]))) 1 (delO o ts)
  simp +contextual -implicitDefEqProofs (maxSteps := 2000000) only [↓wP, wQ, wQ1, wQ2, wQ3, wR, boxE, partsOf, ↓reduceIte, Nat.reduceEqDiff, Nat.reduceAdd, Nat.reduceSub, Nat.reduceLeDiff, Nat.reduceLT, Nat.reduceMul, reduceCtorEq, Int.reduceBNe, Int.reduceBEq, Int.reduceLT, Int.reduceLE, Int.reduceGT, callE_eq hm, h48, bk_pair, h1]
  exact giv_pair h2 _

def vec5 (v : Option (List Int)) : List Int := (lst v).take 5

theorem r22 (k ts : Int) (near : Bool) (v : Option (List Int)) (hv : (lst v).length < 9223372036854775808) : res T 22 [.agg [.int .i64 k, .int .u64 ts, .bool near, slV 1 i32V v]] = some (.own 1 ((vec5 v).map i32V)) := by
  refine run_res (run_own (fn := g22) rfl rfl (by decide) ?_)
  simp only [g22, b22]
  have hmin : (if (5 : Int) < ((lst v).length : Int) then 5 else ((lst v).length : Int)) = ((min (lst v).length 5 : Nat) : Int) := by split <;> omega
  have hsub : lst (sub v 0 (min (lst v).length 5)) = vec5 v := by
    rw [lst_sub, List.drop_zero, Nat.min_comm, ← List.take_take, List.take_length, vec5]
  have hlim : ((vec5 v).map i32V).length * 4 ≤ LIM := by unfold LIM vec5; simp; omega
  simp +contextual -implicitDefEqProofs (maxSteps := 2000000) only [↓wP, wQ, wQ1, wQ2, wQ3, wR, boxE, partsOf, ↓reduceIte, Nat.reduceEqDiff, Nat.reduceAdd, Nat.reduceSub, Nat.reduceLeDiff, Nat.reduceLT, Nat.reduceMul, reduceCtorEq, Int.reduceBNe, Int.reduceBEq, Int.reduceLT, Int.reduceLE, Int.reduceGT, hmin, Nat.min_le_left, hsub, hlim]
  have := giv_row (σ := upd (upd (upd (upd Sto.empty 0 (some (.row 4 [.agg [.int .i64 k, .int .u64 ts, .bool near, slV 1 i32V v]]))) 1 (some (.row 1 []))) 1 none) 2 (some (.row 1 ((vec5 v).map i32V)))) (id := 2) (sz := 1) (xs := (vec5 v).map i32V) (by simp [upd])
    (fun x hx => by obtain ⟨t, -, rfl⟩ := List.mem_map.1 hx; rfl) (fun x hx c hc => by obtain ⟨t, -, rfl⟩ := List.mem_map.1 hx; simp [i32V, V.cells] at hc; subst hc; rfl)
  exact this

theorem f22 (k ts : Int) (near : Bool) (v : Option (List Int)) (hv : (lst v).length < 9223372036854775808) (fs : Bool) (σ : Sto) (n lk : Nat) :
    callE T fs 22 [.agg [.int .i64 k, .int .u64 ts, .bool near, slV 1 i32V v]] σ n lk = some (.ref n 0 (vec5 v).length 1, upd σ n (some (.row 1 ((vec5 v).map i32V))), n + 1) := by
  have := callE_own (by decide) (r22 k ts near v hv) (by simp [Tr, Tr_slV]) (fun x hx => by obtain ⟨t, -, rfl⟩ := List.mem_map.1 hx; rfl) fs σ n lk
  rw [List.length_map] at this
  exact this

def k5 (k : Int) : Int := (IntKind.u64.wrap k).tmod 5
def opTs (k ts : Int) (near : Bool) (n : Int) : Int :=
  if near = false then ts else if k5 k = 4 then IntKind.u64.wrap (n - (if ts.tmod 10 < n then ts.tmod 10 else n)) else IntKind.u64.wrap (n + ts.tmod 6)

theorem r18 (k ts : Int) (near : Bool) (v : Option (List Int)) (o : Option (List Ver)) (hs : Sm o) : res T 18 [.agg [.int .i64 k, .int .u64 ts, .bool near, slV 1 i32V v], slV 3 verV o] = some (.int .u64 (opTs k ts near (lastR (lst o)))) := by
  refine run_res (run_pure (fn := g18) rfl rfl (by decide) ?_)
  simp only [g18, b18]
  have h25 := f25 o hs
  have m5 := bin_rem .u64 (IntKind.u64.wrap k) 5 (by decide)
  have m10 := bin_rem .u64 ts 10 (by decide)
  have m6 := bin_rem .u64 ts 6 (by decide)
  cases near
  · simp +contextual -implicitDefEqProofs (maxSteps := 2000000) only [↓wP, wQ, wQ1, wQ2, wQ3, wR, boxE, partsOf, ↓reduceIte, Nat.reduceEqDiff, Nat.reduceAdd, Nat.reduceSub, Nat.reduceLeDiff, Nat.reduceLT, Nat.reduceMul, reduceCtorEq, Int.reduceBNe, Int.reduceBEq, Int.reduceLT, Int.reduceLE, Int.reduceGT, h25, opTs]
  · by_cases h4 : k5 k = 4
    · have hd : ((IntKind.u64.wrap k).tmod 5 == 4) = true := by simpa [k5] using h4
      simp +contextual -implicitDefEqProofs (maxSteps := 2000000) only [↓wP, wQ, wQ1, wQ2, wQ3, wR, boxE, partsOf, ↓reduceIte, Nat.reduceEqDiff, Nat.reduceAdd, Nat.reduceSub, Nat.reduceLeDiff, Nat.reduceLT, Nat.reduceMul, reduceCtorEq, Int.reduceBNe, Int.reduceBEq, Int.reduceLT, Int.reduceLE, Int.reduceGT, h25, m5, m10, m6, hd, opTs, h4]
    · have hd : ((IntKind.u64.wrap k).tmod 5 == 4) = false := by simpa [k5] using h4
      simp +contextual -implicitDefEqProofs (maxSteps := 2000000) only [↓wP, wQ, wQ1, wQ2, wQ3, wR, boxE, partsOf, ↓reduceIte, Nat.reduceEqDiff, Nat.reduceAdd, Nat.reduceSub, Nat.reduceLeDiff, Nat.reduceLT, Nat.reduceMul, reduceCtorEq, Int.reduceBNe, Int.reduceBEq, Int.reduceLT, Int.reduceLE, Int.reduceGT, h25, m5, m10, m6, hd, opTs, h4]

theorem f18 (k ts : Int) (near : Bool) (v : Option (List Int)) (o : Option (List Ver)) (hs : Sm o) (fs : Bool) (σ : Sto) (n lk : Nat) : callE T fs 18 [.agg [.int .i64 k, .int .u64 ts, .bool near, slV 1 i32V v], slV 3 verV o] σ n lk = some (.int .u64 (opTs k ts near (lastR (lst o))), σ, n) :=
  callE_tr (by decide) (r18 k ts near v o hs) (by simp [Tr, Tr_slV]) rfl fs σ n lk

end Go.Q.S4
end

section
/- Pruning, with rows of its own. -/
set_option linter.unusedSimpArgs false
set_option linter.unusedVariables false
namespace Go.Q.S4
open Go.Q

def goesP (fl : Int) (x : Ver) : Bool := x.e != 0 && decide (x.e ≤ fl)

theorem r44 (b e : Int) (v : Option (List Int)) (fl : Int) : res T 44 [.agg [.int .u64 b, .int .u64 e, slV 1 i32V v], .box [.int .u64 fl]] = some (.bool (goesP fl ⟨b, e, v⟩)) := by
  refine run_res (run_pure (fn := g44) rfl rfl (by decide) ?_)
  simp only [g44, b44]
  simp +contextual -implicitDefEqProofs (maxSteps := 2000000) only [↓wP, wQ, wQ1, wQ2, wQ3, wR, boxE, partsOf, ↓reduceIte, Nat.reduceEqDiff, Nat.reduceAdd, Nat.reduceSub, Nat.reduceLeDiff, Nat.reduceLT, Nat.reduceMul, reduceCtorEq, Int.reduceBNe, Int.reduceBEq, Int.reduceLT, Int.reduceLE, Int.reduceGT]
  rfl

theorem f44 (b e : Int) (v : Option (List Int)) (fl : Int) (fs : Bool) (σ : Sto) (n lk : Nat) : callE T fs 44 [.agg [.int .u64 b, .int .u64 e, slV 1 i32V v], .box [.int .u64 fl]] σ n lk = some (.bool (goesP fl ⟨b, e, v⟩), σ, n) :=
  callE_tr (by decide) (r44 b e v fl) (by simp [Tr, Tr_slV]) rfl fs σ n lk

theorem r47 (b e : Int) (v : Option (List Int)) (fl : Int) : res T 47 [.agg [.int .u64 b, .int .u64 e, slV 1 i32V v], .box [.fn 44 [.box [.int .u64 fl]]]] = some (.bool (!goesP fl ⟨b, e, v⟩)) := by
  refine run_res (run_pure (fn := g47) rfl rfl (by decide) ?_)
  simp only [g47, b47]
  have h := f44 b e v fl
  simp +contextual -implicitDefEqProofs (maxSteps := 2000000) only [↓wP, wQ, wQ1, wQ2, wQ3, wR, boxE, partsOf, ↓reduceIte, Nat.reduceEqDiff, Nat.reduceAdd, Nat.reduceSub, Nat.reduceLeDiff, Nat.reduceLT, Nat.reduceMul, reduceCtorEq, Int.reduceBNe, Int.reduceBEq, Int.reduceLT, Int.reduceLE, Int.reduceGT, h]

theorem f47 (b e : Int) (v : Option (List Int)) (fl : Int) (fs : Bool) (σ : Sto) (n lk : Nat) : callE T fs 47 [.agg [.int .u64 b, .int .u64 e, slV 1 i32V v], .box [.fn 44 [.box [.int .u64 fl]]]] σ n lk = some (.bool (!goesP fl ⟨b, e, v⟩), σ, n) :=
  callE_tr (by decide) (r47 b e v fl) (by simp [Tr, Tr_slV]) rfl fs σ n lk

/-- Versions with their vectors' rows. -/
abbrev Z1 := Ver × Nat
def ev (z : Z1) : V := .agg [.int .u64 z.1.b, .int .u64 z.1.e, .ref z.2 0 (lst z.1.v).length 1]

theorem zip_ev : ∀ (L : List Ver) (ids : List Nat), L.zipWith erow ids = (L.zip ids).map ev
  | [], _ => by simp
  | _ :: _, [] => by simp
  | x :: L, i :: ids => by
    rw [List.zipWith_cons_cons, List.zip_cons_cons, List.map_cons, zip_ev L ids]
    rfl

def RowZ (σ : Sto) (cv : V) (Z : List Z1) : Prop := (cv = .nilS ∧ Z = []) ∨ ∃ id, cv = .ref id 0 Z.length 3 ∧ σ id = some (.row 3 (Z.map ev))

theorem Chn.rowZ {σ : Sto} {m n : Nat} {v : V} {o : Option (List Ver)} (h : Chn σ m n v o) : ∃ Z : List Z1, RowZ σ v Z ∧ Z.map Prod.fst = lst o ∧ (Z.map Prod.snd).Nodup ∧ (∀ z ∈ Z, m ≤ z.2 ∧ z.2 < n ∧ σ z.2 = some (.row 1 ((lst z.1.v).map i32V))) ∧
    (∀ id off len sz, v = .ref id off len sz → m ≤ id ∧ id < n ∧ id ∉ Z.map Prod.snd) := by
  cases o with
  | none =>
    simp only [Chn] at h
    subst h
    exact ⟨[], .inl ⟨rfl, rfl⟩, rfl, by simp, by simp, fun _ _ _ _ h => by cases h⟩
  | some L =>
    obtain ⟨id, ids, rfl, h1, h2, h3, h4⟩ := h
    have hl : ids.length = L.length := h4.1
    refine ⟨L.zip ids, .inr ⟨id, by simp [hl], by rw [← zip_ev]; exact h1⟩, List.map_fst_zip (by omega), ?_, fun z hz => ?_, fun i off len sz he => ?_⟩
    · rw [List.map_snd_zip (by omega)]; exact (List.nodup_cons.1 h2).2
    · obtain ⟨j, hj, rfl⟩ := List.getElem_of_mem hz
      have hj1 : j < L.length := by simp at hj; omega
      have hj2 : j < ids.length := by omega
      rw [List.getElem_zip]
      have hb := h3 ids[j] (List.mem_cons_of_mem _ (List.getElem_mem hj2))
      exact ⟨hb.1, hb.2, h4.2 j _ _ (List.getElem?_eq_getElem hj1) (List.getElem?_eq_getElem hj2)⟩
    · cases he
      rw [List.map_snd_zip (by omega)]
      have hb := h3 id (by simp)
      exact ⟨hb.1, hb.2, (List.nodup_cons.1 h2).1⟩

/-- Rows out of a chain are a chain. -/
theorem chn_of_pl {σ : Sto} {m m1 n : Nat} {v : V} {Z : List Z1} (hp : Pl σ m1 n 3 v ((opt Z).map (List.map ev))) (hn : (Z.map Prod.snd).Nodup) (hm : m ≤ m1) (hz : ∀ z ∈ Z, m ≤ z.2 ∧ z.2 < m1 ∧ σ z.2 = some (.row 1 ((lst z.1.v).map i32V))) (hmn : m1 ≤ n) :
    Chn σ m n v (opt (Z.map Prod.fst)) := by
  cases Z with
  | nil => exact hp
  | cons z Z =>
    obtain ⟨i, rfl, h1, h2, h3⟩ := hp
    have e : opt ((z :: Z).map Prod.fst) = some ((z :: Z).map Prod.fst) := rfl
    rw [e]
    refine ⟨i, (z :: Z).map Prod.snd, by simp, ?_, List.nodup_cons.2 ⟨fun hi => ?_, hn⟩, fun k hk => ?_, ?_⟩
    · have e2 : ((z :: Z).map Prod.fst).zipWith erow ((z :: Z).map Prod.snd) = (z :: Z).map ev := by
        rw [zip_ev]
        congr 1
        generalize z :: Z = Y
        induction Y with
        | nil => rfl
        | cons y Y ih => rw [List.map_cons, List.map_cons, List.zip_cons_cons, ih]
      rw [e2]; exact h1
    · obtain ⟨y, hy, rfl⟩ := List.mem_map.1 hi
      have := (hz y hy).2.1
      omega
    · rcases List.mem_cons.1 hk with rfl | hk
      · omega
      · obtain ⟨y, hy, rfl⟩ := List.mem_map.1 hk
        have := hz y hy
        omega
    · refine ⟨by simp, fun j x k hx hk => ?_⟩
      rw [List.getElem?_map, Option.map_eq_some_iff] at hx hk
      obtain ⟨y, hy, rfl⟩ := hx
      obtain ⟨y', hy', rfl⟩ := hk
      rw [hy] at hy'
      cases hy'
      exact (hz y (List.mem_of_getElem? hy)).2.2

theorem that56 (L : List Z1) (cv : V) (F : Nat) (fcaps : List V) (p : Z1 → Bool) (J : List Z1 → Sto → Nat → Prop) (l pc pi : Nat) (hlen : L.length < 9223372036854775808)
    (hc : ∀ pre σ n, J pre σ n → σ pc = some (.row 1 [cv]) ∧ σ pi = some (.row 1 [.fn F fcaps]) ∧ RowZ σ cv L)
    (hal : ∀ pre σ n σ', J pre σ n → (∀ i, i ≠ n → σ' i = σ i) → J pre σ' (n + 1))
    (hp : ∀ pre σ n z, z ∈ L → J pre σ n → callE T true F (ev z :: fcaps) σ n 0 = some (.bool (p z), σ, n))
    (hy : ∀ pre σ n z, z ∈ L → pre.length < L.length → J pre σ n → yieldW (run T) l [ev z] σ n 0 (fun y σ' n' => y = .bool true ∧ J (pre ++ [z]) σ' n'))
    (σ0 : Sto) (n0 : Nat) (h0 : J [] σ0 n0) : run T (.raw 56 [.yld l, .ptr pc 1 0 0, .ptr pi 1 0 0] σ0 n0 0) (memQ fun _ σ' n' => J (L.filter p) σ' n') := by
  refine run_rawE (fn := g56) rfl rfl ?_
  obtain ⟨c1, c2, c3⟩ := hc _ _ _ h0
  have hle : lenE cv = some (.int .i64 (L.length : Int)) := by
    rcases c3 with ⟨rfl, rfl⟩ | ⟨id, rfl, -⟩
    · rfl
    · rw [lenE_ref]
  have hcl : cv.cells = [cv] := by rcases c3 with ⟨rfl, -⟩ | ⟨id, rfl, -⟩ <;> rfl
  simp only [g56, b56]
  simp +contextual -implicitDefEqProofs (maxSteps := 2000000) only [↓wP, wQ, wQ1, wQ2, wQ3, wR, boxE, partsOf, ↓reduceIte, Nat.reduceEqDiff, Nat.reduceAdd, Nat.reduceSub, Nat.reduceLeDiff, Nat.reduceLT, Nat.reduceMul, reduceCtorEq, Int.reduceBNe, Int.reduceBEq, Int.reduceLT, Int.reduceLE, Int.reduceGT, c1, hle, hcl]
  refine WC_for L.length 0 (fun (j : Nat) env σ n => env 0 = .yld l ∧ env 2 = .ptr pi 1 0 0 ∧ env 6 = cv ∧ J ((L.take j).filter p) σ n) hlen ?_ ?_ ?_ ?_ ?_ ?_ _ _ _ rfl rfl ?_
  · decide
  · decide
  · exact fun _ _ => rfl
  · exact fun _ _ _ => rfl
  · intro j env σ n hj h1 h2 ⟨h3, h4, h5, h6⟩
    simp only [vl_tmp] at h2
    obtain ⟨d1, d2, d3⟩ := hc _ _ _ h6
    rcases d3 with ⟨-, rfl⟩ | ⟨id, rfl, d4⟩
    · simp at hj
    have hz := List.getElem_mem hj
    have hx : (L.map ev)[j]? = some (.agg [.int .u64 L[j].1.b, .int .u64 L[j].1.e, .ref L[j].2 0 (lst L[j].1.v).length 1]) := by
      rw [List.getElem?_map, List.getElem?_eq_getElem hj]; rfl
    have hJ1 := hal _ σ n (upd (upd σ n (some (.row 3 [.agg [.int .u64 0, .int .u64 0, .nilS]]))) n (some (.row 3 [.agg [.int .u64 L[j].1.b, .int .u64 L[j].1.e, .ref L[j].2 0 (lst L[j].1.v).length 1]]))) h6 (fun i hi => by simp [upd, hi])
    obtain ⟨e1, e2, -⟩ := hc _ _ _ hJ1
    have hpx := hp _ _ _ L[j] hz hJ1
    have hyx := hy _ _ _ L[j] hz (by have := List.length_filter_le p (L.take j); rw [List.length_take] at this; omega) hJ1
    simp only [ev] at hpx hyx
    have hf : (L.take (j + 1)).filter p = (L.take j).filter p ++ if p L[j] = true then [L[j]] else [] := by
      rw [← List.take_append_getElem hj, List.filter_append]
      congr 1
      cases hh : p L[j] <;> simp [hh]
    have hpi : (pi = n) = False := by
      simp only [eq_iff_iff, iff_false]
      rintro rfl
      simp [upd] at e2
    cases hq : p L[j]
    · rw [hq] at hpx
      simp +contextual -implicitDefEqProofs (maxSteps := 2000000) only [↓wP, wQ, wQ1, wQ2, wQ3, wR, boxE, partsOf, ↓reduceIte, Nat.reduceEqDiff, Nat.reduceAdd, Nat.reduceSub, Nat.reduceLeDiff, Nat.reduceLT, Nat.reduceMul, reduceCtorEq, Int.reduceBNe, Int.reduceBEq, Int.reduceLT, Int.reduceLE, Int.reduceGT, h1, h2, h3, h4, h5, hj, hx, d4, hpi, d2, hpx]
      rw [hf, hq]
      simpa using hJ1
    · rw [hq] at hpx
      simp +contextual -implicitDefEqProofs (maxSteps := 2000000) only [↓wP, wQ, wQ1, wQ2, wQ3, wR, boxE, partsOf, ↓reduceIte, Nat.reduceEqDiff, Nat.reduceAdd, Nat.reduceSub, Nat.reduceLeDiff, Nat.reduceLT, Nat.reduceMul, reduceCtorEq, Int.reduceBNe, Int.reduceBEq, Int.reduceLT, Int.reduceLE, Int.reduceGT, h1, h2, h3, h4, h5, hj, hx, d4, hpi, d2, hpx]
      refine stepW_yld (yieldW_mono (fun _ _ x => x) run_mono (fun y σ' n' ⟨hy1, hy2⟩ => ?_) hyx)
      subst hy1
      simp +contextual -implicitDefEqProofs (maxSteps := 2000000) only [↓wP, wQ, wQ1, wQ2, wQ3, wR, boxE, partsOf, ↓reduceIte, Nat.reduceEqDiff, Nat.reduceAdd, Nat.reduceSub, Nat.reduceLeDiff, Nat.reduceLT, Nat.reduceMul, reduceCtorEq, Int.reduceBNe, Int.reduceBEq, Int.reduceLT, Int.reduceLE, Int.reduceGT, h1, h2, h3, h4, h5]
      rw [hf, hq]
      simpa using hy2
  · intro env σ n ⟨h3, h4, h5, h6⟩ h1 h2
    rw [List.take_length] at h6
    simp +contextual -implicitDefEqProofs (maxSteps := 2000000) only [↓wP, wQ, wQ1, wQ2, wQ3, wR, boxE, partsOf, ↓reduceIte, Nat.reduceEqDiff, Nat.reduceAdd, Nat.reduceSub, Nat.reduceLeDiff, Nat.reduceLT, Nat.reduceMul, reduceCtorEq, Int.reduceBNe, Int.reduceBEq, Int.reduceLT, Int.reduceLE, Int.reduceGT]
    exact h6
  · exact ⟨rfl, rfl, rfl, h0⟩

theorem collectA {env : Nat → V} {σ : Sto} {n : Nat} {Q : Ex → St → Prop} (L : List Z1) (cv : V) (F : Nat) (fcaps : List V) (p : Z1 → Bool) (pc pi d : Nat)
    (hg : env 22 = .fn 56 [.ptr pc 1 0 0, .ptr pi 1 0 0]) (hd : env 10 = .ptr d 1 0 0) (h1 : σ pc = some (.row 1 [cv])) (h2 : σ pi = some (.row 1 [.fn F fcaps])) (h3 : RowZ σ cv L) (h4 : σ d = some (.row 1 [.nilS]))
    (l1 : pc < n) (l2 : pi < n) (l4 : d < n) (l3 : ∀ id off len sz, cv = .ref id off len sz → id < n ∧ id ≠ d) (n1 : pc ≠ d) (n2 : pi ≠ d)
    (hp : ∀ σ' n' z, z ∈ L → (∀ i, i < n → i ≠ d → σ' i = σ i) → callE T true F (ev z :: fcaps) σ' n' 0 = some (.bool (p z), σ', n'))
    (hl : L.length * 40 ≤ LIM)
    (hQ : ∀ σ' n' gv, (∀ i, i < n → i ≠ d → σ' i = σ i) → n ≤ n' → σ' d = some (.row 1 [gv]) → Pl σ' n n' 3 gv ((opt (L.filter p)).map (List.map ev)) → Q .normal ⟨env, σ', n', 0⟩) :
    WC T (.rangeF (.tmp 22) [23] (.reg [⟨some 11, none, .alloc (.agg [.int .u64 0, .int .u64 0, .nilS])⟩, ⟨none, none, .store 3 (.tmp 11) (.tmp 23)⟩])
      (.block 1 (.reg [⟨some 24, none, .load false 1 (.tmp 10)⟩, ⟨some 25, none, .load true 3 (.tmp 11)⟩, ⟨some 26, none, .lit 3 [.tmp 25]⟩,
        ⟨some 27, none, .append 3 40 (.tmp 24) (.tmp 26)⟩, ⟨none, none, .store 1 (.tmp 10) (.tmp 27)⟩]))) env σ n 0 Q := by
  refine WC_rangeF hg (Nat.zero_le _) ?_
  generalize hA : AC.reg [⟨some 11, none, .alloc (.agg [.int .u64 0, .int .u64 0, .nilS])⟩, ⟨none, none, .store 3 (.tmp 11) (.tmp 23)⟩] = asg
  generalize hB : AC.block 1 (.reg [⟨some 24, none, .load false 1 (.tmp 10)⟩, ⟨some 25, none, .load true 3 (.tmp 11)⟩, ⟨some 26, none, .lit 3 [.tmp 25]⟩,
        ⟨some 27, none, .append 3 40 (.tmp 24) (.tmp 26)⟩, ⟨none, none, .store 1 (.tmp 10) (.tmp 27)⟩]) = bd
  refine run_mono _ _ _ (fun o ho => ?_) (that56 L cv F fcaps p (fun pre σ' n' => pre.length ≤ L.length ∧ n < n' ∧ (∀ i, i < n → i ≠ d → σ' i = σ i) ∧ σ' n = some (.loop env [23] asg bd .ready none) ∧
    ∃ gv, σ' d = some (.row 1 [gv]) ∧ Pl σ' (n + 1) n' 3 gv ((opt pre).map (List.map ev))) n pc pi (by unfold LIM at hl; omega) ?_ ?_ ?_ ?_ _ _ ?_)
  · cases o <;> try exact ho.elim
    obtain ⟨-, e1, e2, e3, gv, e4, e5⟩ := ho
    refine ⟨_, _, _, _, _, _, e3, by decide, ?_⟩
    refine hQ _ _ gv (fun i hi hd => ?_) (by omega) ?_ ?_
    · have a1 : i ≠ n := by omega
      simp only [upd_get, a1, if_false]
      exact e2 i hi hd
    · have a1 : d ≠ n := by omega
      simp only [upd_get, a1, if_false]
      exact e4
    · cases ho : (opt (L.filter p)).map (List.map ev) with
      | none => rw [ho] at e5; exact e5
      | some xs =>
        rw [ho] at e5
        obtain ⟨i, f1, f2, f3, f4⟩ := e5
        have a1 : i ≠ n := by omega
        exact ⟨i, f1, by simp only [upd_get, a1, if_false]; exact f2, by omega, f4⟩
  · rintro pre σ' n' ⟨-, e1, e2, e3, -⟩
    refine ⟨(e2 _ l1 n1).trans h1, (e2 _ l2 n2).trans h2, ?_⟩
    rcases h3 with h3 | ⟨id, f1, f2⟩
    · exact .inl h3
    · obtain ⟨g1, g2⟩ := l3 _ _ _ _ f1
      exact .inr ⟨id, f1, (e2 _ g1 g2).trans f2⟩
  · rintro pre σ' n' σ2 ⟨e0, e1, e2, e3, gv, e4, e5⟩ hσ
    refine ⟨e0, by omega, fun i hi hd => (hσ i (by omega)).trans (e2 i hi hd), (hσ n (by omega)).trans e3, gv, (hσ d (by omega)).trans e4, e5.loc (fun i _ hi => hσ i (by omega)) (by omega)⟩
  · rintro pre σ' n' z hz ⟨-, e1, e2, -⟩
    exact hp σ' n' z hz e2
  · rintro pre σ' n' z hz hlt ⟨e0, e1, e2, e3, gv, e4, e5⟩
    refine yieldW_go e3 rfl (Nat.zero_le _) ?_
    subst hA
    subst hB
    have a1 : (n = n') = False := by simp; omega
    have a2 : (d = n') = False := by simp; omega
    have a3 : (d = n) = False := by simp; omega
    have a4 : (n = d) = False := by simp; omega
    have a5 : (n' = n) = False := by simp; omega
    have a6 : (n' = d) = False := by simp; omega
    have b1 := e5.cells
    simp only [ev]
    simp +contextual -implicitDefEqProofs (maxSteps := 2000000) only [↓wP, wQ, wQ1, wQ2, wQ3, wR, boxE, partsOf, ↓reduceIte, Nat.reduceEqDiff, Nat.reduceAdd, Nat.reduceSub, Nat.reduceLeDiff, Nat.reduceLT, Nat.reduceMul, reduceCtorEq, Int.reduceBNe, Int.reduceBEq, Int.reduceLT, Int.reduceLE, Int.reduceGT, bind_cons, bind_nil, hd, e3, e4, a1, a2, a3, a4, a5, a6, b1]
    refine stepW_appP e5 (fun i hi hi' => ?_) (by omega) (by omega) (Nat.zero_le _) ?_ (fun v' σ2 n2 q1 q2 q3 => ?_)
    · have c1 : i ≠ n' + 1 := by omega
      have c2 : i ≠ n' := by omega
      have c3 : i ≠ n := by omega
      simp only [upd_get, c1, c2, c3, if_false]
    · rw [lst_map, lst_opt]
      simp only [List.length_map, List.length_cons, List.length_nil]
      refine Nat.le_trans (Nat.mul_le_mul_right 40 ?_) hl
      omega
    · have d1 := q3 d (by omega)
      have d2 := q3 n (by omega)
      have c1 : (d = n' + 1) = False := by simp; omega
      have c2 : (n = n' + 1) = False := by simp; omega
      simp only [upd_get, a1, a2, a3, a4, a5, a6, c1, c2, if_false, if_true, e4] at d1 d2
      have b2 := q1.cells
      have b3 := q1.one
      have b4 := spl_one e5.one 0 v'
      simp +contextual -implicitDefEqProofs (maxSteps := 2000000) only [↓wP, wQ, wQ1, wQ2, wQ3, wR, boxE, partsOf, ↓reduceIte, Nat.reduceEqDiff, Nat.reduceAdd, Nat.reduceSub, Nat.reduceLeDiff, Nat.reduceLT, Nat.reduceMul, reduceCtorEq, Int.reduceBNe, Int.reduceBEq, Int.reduceLT, Int.reduceLE, Int.reduceGT, hd, d1, d2, b2, b3, b4, a3, a4]
      refine ⟨by simp; omega, by omega, fun i hi hid => ?_, v', rfl, ?_⟩
      · have f1 : i ≠ n' + 1 := by omega
        have f2 : i ≠ n' := by omega
        have f3 : i ≠ n := by omega
        rw [if_neg f3, q3 i (by omega)]
        simp only [upd_get, f1, f2, f3, if_false]
        exact e2 i hi hid
      · rw [opt_snoc, appO_map]
        refine q1.loc (fun i hi _ => ?_) (Nat.le_refl _)
        have f1 : i ≠ d := by omega
        have f3 : i ≠ n := by omega
        simp only [upd_get, f1, f3, if_false]
  · refine ⟨Nat.zero_le _, by omega, fun i hi _ => ?_, by simp [upd], .nilS, ?_, rfl⟩
    · have a1 : i ≠ n := by omega
      simp only [upd_get, a1, if_false]
    · have a1 : d ≠ n := by omega
      simp only [upd_get, a1, if_false]
      exact h4

theorem collectB {env : Nat → V} {σ : Sto} {n : Nat} {Q : Ex → St → Prop} (L : List Z1) (cv : V) (F : Nat) (fcaps : List V) (p : Z1 → Bool) (pc pi d : Nat)
    (hg : env 31 = .fn 56 [.ptr pc 1 0 0, .ptr pi 1 0 0]) (hd : env 9 = .ptr d 1 0 0) (h1 : σ pc = some (.row 1 [cv])) (h2 : σ pi = some (.row 1 [.fn F fcaps])) (h3 : RowZ σ cv L) (h4 : σ d = some (.row 1 [.nilS]))
    (l1 : pc < n) (l2 : pi < n) (l4 : d < n) (l3 : ∀ id off len sz, cv = .ref id off len sz → id < n ∧ id ≠ d) (n1 : pc ≠ d) (n2 : pi ≠ d)
    (hp : ∀ σ' n' z, z ∈ L → (∀ i, i < n → i ≠ d → σ' i = σ i) → callE T true F (ev z :: fcaps) σ' n' 0 = some (.bool (p z), σ', n'))
    (hl : L.length * 40 ≤ LIM)
    (hQ : ∀ σ' n' gv, (∀ i, i < n → i ≠ d → σ' i = σ i) → n ≤ n' → σ' d = some (.row 1 [gv]) → Pl σ' n n' 3 gv ((opt (L.filter p)).map (List.map ev)) → Q .normal ⟨env, σ', n', 0⟩) :
    WC T (.rangeF (.tmp 31) [32] (.reg [⟨some 12, none, .alloc (.agg [.int .u64 0, .int .u64 0, .nilS])⟩, ⟨none, none, .store 3 (.tmp 12) (.tmp 32)⟩])
      (.block 3 (.reg [⟨some 33, none, .load false 1 (.tmp 9)⟩, ⟨some 34, none, .load true 3 (.tmp 12)⟩, ⟨some 35, none, .lit 3 [.tmp 34]⟩,
        ⟨some 36, none, .append 3 40 (.tmp 33) (.tmp 35)⟩, ⟨none, none, .store 1 (.tmp 9) (.tmp 36)⟩]))) env σ n 0 Q := by
  refine WC_rangeF hg (Nat.zero_le _) ?_
  generalize hA : AC.reg [⟨some 12, none, .alloc (.agg [.int .u64 0, .int .u64 0, .nilS])⟩, ⟨none, none, .store 3 (.tmp 12) (.tmp 32)⟩] = asg
  generalize hB : AC.block 3 (.reg [⟨some 33, none, .load false 1 (.tmp 9)⟩, ⟨some 34, none, .load true 3 (.tmp 12)⟩, ⟨some 35, none, .lit 3 [.tmp 34]⟩,
        ⟨some 36, none, .append 3 40 (.tmp 33) (.tmp 35)⟩, ⟨none, none, .store 1 (.tmp 9) (.tmp 36)⟩]) = bd
  refine run_mono _ _ _ (fun o ho => ?_) (that56 L cv F fcaps p (fun pre σ' n' => pre.length ≤ L.length ∧ n < n' ∧ (∀ i, i < n → i ≠ d → σ' i = σ i) ∧ σ' n = some (.loop env [32] asg bd .ready none) ∧
    ∃ gv, σ' d = some (.row 1 [gv]) ∧ Pl σ' (n + 1) n' 3 gv ((opt pre).map (List.map ev))) n pc pi (by unfold LIM at hl; omega) ?_ ?_ ?_ ?_ _ _ ?_)
  · cases o <;> try exact ho.elim
    obtain ⟨-, e1, e2, e3, gv, e4, e5⟩ := ho
    refine ⟨_, _, _, _, _, _, e3, by decide, ?_⟩
    refine hQ _ _ gv (fun i hi hd => ?_) (by omega) ?_ ?_
    · have a1 : i ≠ n := by omega
      simp only [upd_get, a1, if_false]
      exact e2 i hi hd
    · have a1 : d ≠ n := by omega
      simp only [upd_get, a1, if_false]
      exact e4
    · cases ho : (opt (L.filter p)).map (List.map ev) with
      | none => rw [ho] at e5; exact e5
      | some xs =>
        rw [ho] at e5
        obtain ⟨i, f1, f2, f3, f4⟩ := e5
        have a1 : i ≠ n := by omega
        exact ⟨i, f1, by simp only [upd_get, a1, if_false]; exact f2, by omega, f4⟩
  · rintro pre σ' n' ⟨-, e1, e2, e3, -⟩
    refine ⟨(e2 _ l1 n1).trans h1, (e2 _ l2 n2).trans h2, ?_⟩
    rcases h3 with h3 | ⟨id, f1, f2⟩
    · exact .inl h3
    · obtain ⟨g1, g2⟩ := l3 _ _ _ _ f1
      exact .inr ⟨id, f1, (e2 _ g1 g2).trans f2⟩
  · rintro pre σ' n' σ2 ⟨e0, e1, e2, e3, gv, e4, e5⟩ hσ
    refine ⟨e0, by omega, fun i hi hd => (hσ i (by omega)).trans (e2 i hi hd), (hσ n (by omega)).trans e3, gv, (hσ d (by omega)).trans e4, e5.loc (fun i _ hi => hσ i (by omega)) (by omega)⟩
  · rintro pre σ' n' z hz ⟨-, e1, e2, -⟩
    exact hp σ' n' z hz e2
  · rintro pre σ' n' z hz hlt ⟨e0, e1, e2, e3, gv, e4, e5⟩
    refine yieldW_go e3 rfl (Nat.zero_le _) ?_
    subst hA
    subst hB
    have a1 : (n = n') = False := by simp; omega
    have a2 : (d = n') = False := by simp; omega
    have a3 : (d = n) = False := by simp; omega
    have a4 : (n = d) = False := by simp; omega
    have a5 : (n' = n) = False := by simp; omega
    have a6 : (n' = d) = False := by simp; omega
    have b1 := e5.cells
    simp only [ev]
    simp +contextual -implicitDefEqProofs (maxSteps := 2000000) only [↓wP, wQ, wQ1, wQ2, wQ3, wR, boxE, partsOf, ↓reduceIte, Nat.reduceEqDiff, Nat.reduceAdd, Nat.reduceSub, Nat.reduceLeDiff, Nat.reduceLT, Nat.reduceMul, reduceCtorEq, Int.reduceBNe, Int.reduceBEq, Int.reduceLT, Int.reduceLE, Int.reduceGT, bind_cons, bind_nil, hd, e3, e4, a1, a2, a3, a4, a5, a6, b1]
    refine stepW_appP e5 (fun i hi hi' => ?_) (by omega) (by omega) (Nat.zero_le _) ?_ (fun v' σ2 n2 q1 q2 q3 => ?_)
    · have c1 : i ≠ n' + 1 := by omega
      have c2 : i ≠ n' := by omega
      have c3 : i ≠ n := by omega
      simp only [upd_get, c1, c2, c3, if_false]
    · rw [lst_map, lst_opt]
      simp only [List.length_map, List.length_cons, List.length_nil]
      refine Nat.le_trans (Nat.mul_le_mul_right 40 ?_) hl
      omega
    · have d1 := q3 d (by omega)
      have d2 := q3 n (by omega)
      have c1 : (d = n' + 1) = False := by simp; omega
      have c2 : (n = n' + 1) = False := by simp; omega
      simp only [upd_get, a1, a2, a3, a4, a5, a6, c1, c2, if_false, if_true, e4] at d1 d2
      have b2 := q1.cells
      have b3 := q1.one
      have b4 := spl_one e5.one 0 v'
      simp +contextual -implicitDefEqProofs (maxSteps := 2000000) only [↓wP, wQ, wQ1, wQ2, wQ3, wR, boxE, partsOf, ↓reduceIte, Nat.reduceEqDiff, Nat.reduceAdd, Nat.reduceSub, Nat.reduceLeDiff, Nat.reduceLT, Nat.reduceMul, reduceCtorEq, Int.reduceBNe, Int.reduceBEq, Int.reduceLT, Int.reduceLE, Int.reduceGT, hd, d1, d2, b2, b3, b4, a3, a4]
      refine ⟨by simp; omega, by omega, fun i hi hid => ?_, v', rfl, ?_⟩
      · have f1 : i ≠ n' + 1 := by omega
        have f2 : i ≠ n' := by omega
        have f3 : i ≠ n := by omega
        rw [if_neg f3, q3 i (by omega)]
        simp only [upd_get, f1, f2, f3, if_false]
        exact e2 i hi hid
      · rw [opt_snoc, appO_map]
        refine q1.loc (fun i hi _ => ?_) (Nat.le_refl _)
        have f1 : i ≠ d := by omega
        have f3 : i ≠ n := by omega
        simp only [upd_get, f1, f3, if_false]
  · refine ⟨Nat.zero_le _, by omega, fun i hi _ => ?_, by simp [upd], .nilS, ?_, rfl⟩
    · have a1 : i ≠ n := by omega
      simp only [upd_get, a1, if_false]
    · have a1 : d ≠ n := by omega
      simp only [upd_get, a1, if_false]
      exact h4

end Go.Q.S4
end

section
/- What pruning leaves, with rows of its own. -/
set_option linter.unusedSimpArgs false
set_option linter.unusedVariables false
namespace Go.Q.S4
open Go.Q

theorem giv_trip {σ : Sto} {m n m' n' : Nat} {v w : V} {o o' : Option (List Ver)} (h : Chn σ m n v o) (h' : Chn σ m' n' w o') (hd : n ≤ m' ∨ n' ≤ m) (e : Int) :
    giv σ 12 (.tup [v, w, .int .i64 e]) = some (.tup [ownC o, ownC o', .int .i64 e]) ∧ (gids σ 12 (.tup [v, w, .int .i64 e])).Nodup := by
  have h1 := h.giv 8
  have h2 := h'.giv 8
  constructor
  · simp only [giv, List.mapM_cons, List.mapM_nil, h1.1, h2.1]
    rfl
  · simp only [gids, List.flatMap_cons, List.flatMap_nil, List.append_nil]
    refine List.nodup_append.2 ⟨h1.2.1, h2.2.1, fun a ha b hb => ?_⟩
    have := h1.2.2 a ha
    have := h2.2.2 b hb
    omega


def goneL (fl : Int) (l : List Ver) : List Ver := l.filter (goesP fl)
def staysL (fl : Int) (l : List Ver) : List Ver := l.filter fun x => !goesP fl x

theorem filter_fst (p : Ver → Bool) : ∀ (Z : List Z1), (Z.filter fun z => p z.1).map Prod.fst = (Z.map Prod.fst).filter p
  | [] => rfl
  | z :: Z => by
    rw [List.map_cons, List.filter_cons, List.filter_cons]
    split <;> simp [filter_fst p Z]

theorem r27n (o : Option (List Ver)) (fl : Int) (hs : Sm o) (hc : okC o = false) : res T 27 [slV 3 verV o, .int .u64 fl] = some (.tup [.nilS, .nilS, .int .i64 180]) := by
  refine run_res (run_own (fn := g27) rfl rfl (by decide) ?_)
  simp only [g27, b27]
  have h11 := f11 o hs
  simp +contextual -implicitDefEqProofs (maxSteps := 2000000) only [↓wP, wQ, wQ1, wQ2, wQ3, wR, boxE, partsOf, ↓reduceIte, Nat.reduceEqDiff, Nat.reduceAdd, Nat.reduceSub, Nat.reduceLeDiff, Nat.reduceLT, Nat.reduceMul, reduceCtorEq, Int.reduceBNe, Int.reduceBEq, Int.reduceLT, Int.reduceLE, Int.reduceGT, h11, hc]
  exact giv_trip (o := none) (o' := none) (m := 0) (n := 0) (m' := 0) (n' := 0) rfl rfl (.inl (Nat.le_refl _)) 180

theorem r27 (o : Option (List Ver)) (fl : Int) (hs : Sm o) (hf : FitC o) (ha : AllS (lst o)) (hc : okC o = true) :
    res T 27 [slV 3 verV o, .int .u64 fl] = some (.tup [ownC (opt (staysL fl (lst o))), ownC (opt (goneL fl (lst o))), .int .i64 0]) := by
  refine run_res (run_own (fn := g27) rfl rfl (by decide) ?_)
  simp only [g27, b27]
  have h11 := f11 o hs
  have hm45 : T.mode 45 = .raw := by decide
  have h96 : (lst o).length ≤ 96 := by
    unfold okC at hc
    rw [Bool.and_eq_true, decide_eq_true_eq] at hc
    exact hc.1
  have hB := big_le
  -- the first copy
  obtain ⟨cv, σc, nc, t1, t2, t3, t4⟩ := thaw_ownC (upd (upd (upd (upd (upd Sto.empty 0 (some (.row 1 [.int .u64 fl]))) 1 (some (.row 1 [.nilF]))) 1 (some (.row 1 [.fn 44 [.ptr 0 1 0 0]]))) 2 (some (.row 1 [.nilS]))) 3 (some (.row 1 [.nilS]))) 4 o
  have tn := thaw_ownCn (upd (upd (upd (upd (upd Sto.empty 0 (some (.row 1 [.int .u64 fl]))) 1 (some (.row 1 [.nilF]))) 1 (some (.row 1 [.fn 44 [.ptr 0 1 0 0]]))) 2 (some (.row 1 [.nilS]))) 3 (some (.row 1 [.nilS]))) 4 o
  rw [t1] at tn
  simp only at tn
  have h46 := t46 o hf ha
  have f1 : (nc ≤ 4 + BIG) = True := by simp; omega
  have f2 : ∀ σ : Sto, hide σ 4 (4 + BIG * 1) [0] 1 = σ 1 := fun σ => hide_low σ 4 _ _ (by decide) (by omega)
  have g0 : ∀ σ σ' : Sto, merge σ σ' 4 0 = σ 0 := fun σ σ' => merge_low σ σ' 4 (by decide)
  have g1 : ∀ σ σ' : Sto, merge σ σ' 4 1 = σ 1 := fun σ σ' => merge_low σ σ' 4 (by decide)
  have g2 : ∀ σ σ' : Sto, merge σ σ' 4 2 = σ 2 := fun σ σ' => merge_low σ σ' 4 (by decide)
  have g3 : ∀ σ σ' : Sto, merge σ σ' 4 3 = σ 3 := fun σ σ' => merge_low σ σ' 4 (by decide)
  have hcl := t2.cells
  have hon := t2.one
  simp +contextual -implicitDefEqProofs (maxSteps := 2000000) only [↓wP, wQ, wQ1, wQ2, wQ3, wR, boxE, partsOf, ↓reduceIte, Nat.reduceEqDiff, Nat.reduceAdd, Nat.reduceSub, Nat.reduceLeDiff, Nat.reduceLT, Nat.reduceMul, reduceCtorEq, Int.reduceBNe, Int.reduceBEq, Int.reduceLT, Int.reduceLE, Int.reduceGT, h11, hc, h46, t1, f1, f2, g1]
  refine stepW_raw hm45 (run_rawE (fn := g45) rfl rfl ?_)
  simp only [g45, b45]
  simp +contextual -implicitDefEqProofs (maxSteps := 2000000) only [↓wP, wQ, wQ1, wQ2, wQ3, wR, boxE, partsOf, ↓reduceIte, Nat.reduceEqDiff, Nat.reduceAdd, Nat.reduceSub, Nat.reduceLeDiff, Nat.reduceLT, Nat.reduceMul, reduceCtorEq, Int.reduceBNe, Int.reduceBEq, Int.reduceLT, Int.reduceLE, Int.reduceGT, hcl, hon]
  have hB1 : 1000000000000 ≤ BIG * 1 := by omega
  have hncB : nc ≤ 4 + BIG * 1 := by omega
  have kM : ∀ σ : Sto, Chn (merge σ σc 4) 4 nc cv o := fun σ => t2.loc (fun i hi hi' => merge_in σ σc 4 hi (by omega)) (Nat.le_refl _) (Nat.le_refl _)
  clear f1 f2 hB
  generalize BIG * 1 = B at *
  have c0 : (4 + B = 4 + (B + 1)) = False := by simp
  generalize hσ0 : merge (upd (upd (upd (upd (upd Sto.empty 0 (some (.row 1 [.int .u64 fl]))) 1 (some (.row 1 [.nilF]))) 1 (some (.row 1 [.fn 44 [.ptr 0 1 0 0]]))) 2 (some (.row 1 [.nilS]))) 3 (some (.row 1 [.nilS]))) σc 4 = σ0
  have q0 : σ0 0 = some (.row 1 [.int .u64 fl]) := by rw [← hσ0, g0]; simp [upd]
  have q1 : σ0 1 = some (.row 1 [.fn 44 [.ptr 0 1 0 0]]) := by rw [← hσ0, g1]; simp [upd]
  have q2 : σ0 2 = some (.row 1 [.nilS]) := by rw [← hσ0, g2]; simp [upd]
  have q3 : σ0 3 = some (.row 1 [.nilS]) := by rw [← hσ0, g3]; simp [upd]
  have kc : Chn σ0 4 nc cv o := by rw [← hσ0]; exact kM _
  obtain ⟨Z, z1, z2, z3, z4, z5⟩ := kc.rowZ
  have hZl : Z.length = (lst o).length := by rw [← z2, List.length_map]
  have hl : Z.length * 40 ≤ LIM := by rw [hZl]; exact hf.1
  have hup : ∀ i, i < 4 + B → upd (upd σ0 (4 + B) (some (.row 1 [cv]))) (4 + (B + 1)) (some (.row 1 [.fn 44 [.ptr 0 1 0 0]])) i = σ0 i := fun i hi => by
    have a1 : i ≠ 4 + B := by omega
    have a2 : i ≠ 4 + (B + 1) := by omega
    simp only [upd_get, a1, a2, if_false]
  have hmm := mapM_enc i32V (fun _ => rfl)
  have hz44 : ∀ z ∈ Z, res T 44 [.agg [.int .u64 z.1.b, .int .u64 z.1.e, .sl 1 ((lst z.1.v).map i32V)], .box [.int .u64 fl]] = some (.bool (goesP fl z.1)) := fun z hz => by
    have h := r44 z.1.b z.1.e z.1.v fl
    have hv := ha z.1 (by rw [← z2]; exact List.mem_map_of_mem hz)
    rw [hv, slV_some] at h
    rw [h]
    rfl
  have hz47 : ∀ z ∈ Z, res T 47 [.agg [.int .u64 z.1.b, .int .u64 z.1.e, .sl 1 ((lst z.1.v).map i32V)], .box [.fn 44 [.box [.int .u64 fl]]]] = some (.bool (!goesP fl z.1)) := fun z hz => by
    have h := r47 z.1.b z.1.e z.1.v fl
    have hv := ha z.1 (by rw [← z2]; exact List.mem_map_of_mem hz)
    rw [hv, slV_some] at h
    rw [h]
    rfl
  refine collectA Z cv 44 [.ptr 0 1 0 0] (fun z => goesP fl z.1) (4 + B) (4 + (B + 1)) 3 rfl rfl ?_ ?_ ?_ ?_ (by omega) (by omega) (by omega) (fun id off len sz he => by have := z5 _ _ _ _ he; omega) (by omega) (by omega) ?_ hl ?_
  · simp +contextual -implicitDefEqProofs (maxSteps := 2000000) only [↓wP, wQ, wQ1, wQ2, wQ3, wR, boxE, partsOf, ↓reduceIte, Nat.reduceEqDiff, Nat.reduceAdd, Nat.reduceSub, Nat.reduceLeDiff, Nat.reduceLT, Nat.reduceMul, reduceCtorEq, Int.reduceBNe, Int.reduceBEq, Int.reduceLT, Int.reduceLE, Int.reduceGT, c0]
  · simp +contextual -implicitDefEqProofs (maxSteps := 2000000) only [↓wP, wQ, wQ1, wQ2, wQ3, wR, boxE, partsOf, ↓reduceIte, Nat.reduceEqDiff, Nat.reduceAdd, Nat.reduceSub, Nat.reduceLeDiff, Nat.reduceLT, Nat.reduceMul, reduceCtorEq, Int.reduceBNe, Int.reduceBEq, Int.reduceLT, Int.reduceLE, Int.reduceGT]
  · rcases z1 with z1 | ⟨id, e1, e2⟩
    · exact .inl z1
    · exact .inr ⟨id, e1, by rw [hup id (by have := z5 _ _ _ _ e1; omega), e2]⟩
  · rw [hup 3 (by omega), q3]
  · intro σ' n' z hz hσ
    have h0 : σ' 0 = some (.row 1 [.int .u64 fl]) := by rw [hσ 0 (by omega) (by decide), hup 0 (by omega), q0]
    have hzb := z4 z hz
    have hv : σ' z.2 = some (.row 1 ((lst z.1.v).map i32V)) := by rw [hσ z.2 (by omega) (by omega), hup z.2 (by omega), hzb.2.2]
    have h44 := hz44 z hz
    have hle : ((lst z.1.v).length ≤ ((lst z.1.v).map i32V).length) = True := by simp
    have htk : ((lst z.1.v).map i32V).take (lst z.1.v).length = (lst z.1.v).map i32V := by rw [List.take_of_length_le]; simp
    rw [callE_eq (by decide)]
    simp only [ev]
    simp +contextual -implicitDefEqProofs (maxSteps := 2000000) only [↓wP, wQ, wQ1, wQ2, wQ3, wR, boxE, partsOf, ↓reduceIte, Nat.reduceEqDiff, Nat.reduceAdd, Nat.reduceSub, Nat.reduceLeDiff, Nat.reduceLT, Nat.reduceMul, reduceCtorEq, Int.reduceBNe, Int.reduceBEq, Int.reduceLT, Int.reduceLE, Int.reduceGT, h0, hv, frz_rf, hle, htk, hmm, h44]
  · intro σ1 n1 gv e1 e2 e3 e4
    have h0 : σ1 0 = some (.row 1 [.int .u64 fl]) := by rw [e1 0 (by omega) (by decide), hup 0 (by omega), q0]
    have h1 : σ1 1 = some (.row 1 [.fn 44 [.ptr 0 1 0 0]]) := by rw [e1 1 (by omega) (by decide), hup 1 (by omega), q1]
    have h2 : σ1 2 = some (.row 1 [.nilS]) := by rw [e1 2 (by omega) (by decide), hup 2 (by omega), q2]
    have hzg : ∀ z ∈ Z, 4 ≤ z.2 ∧ z.2 < 4 + (B + 2) ∧ σ1 z.2 = some (.row 1 ((lst z.1.v).map i32V)) := fun z hz => by
      have hzb := z4 z hz
      exact ⟨hzb.1, by omega, by rw [e1 z.2 (by omega) (by omega), hup z.2 (by omega), hzb.2.2]⟩
    have kg := chn_of_pl (m := 4) (Z := Z.filter fun z => goesP fl z.1) e4 (List.Nodup.sublist ((List.filter_sublist).map _) z3) (by omega) (fun z hz => hzg z (List.mem_filter.1 hz).1) e2
    rw [filter_fst, z2] at kg
    clear e1
    -- the second copy
    obtain ⟨cv2, σd, nd, s1, s2, s3, s4⟩ := thaw_ownC σ1 n1 o
    have hcl2 := s2.cells
    have hon2 := s2.one
    simp +contextual -implicitDefEqProofs (maxSteps := 2000000) only [↓wP, wQ, wQ1, wQ2, wQ3, wR, boxE, partsOf, ↓reduceIte, Nat.reduceEqDiff, Nat.reduceAdd, Nat.reduceSub, Nat.reduceLeDiff, Nat.reduceLT, Nat.reduceMul, reduceCtorEq, Int.reduceBNe, Int.reduceBEq, Int.reduceLT, Int.reduceLE, Int.reduceGT, h46, s1]
    refine stepW_raw hm45 (run_rawE (fn := g45) rfl rfl ?_)
    simp only [g45, b45]
    simp +contextual -implicitDefEqProofs (maxSteps := 2000000) only [↓wP, wQ, wQ1, wQ2, wQ3, wR, boxE, partsOf, ↓reduceIte, Nat.reduceEqDiff, Nat.reduceAdd, Nat.reduceSub, Nat.reduceLeDiff, Nat.reduceLT, Nat.reduceMul, reduceCtorEq, Int.reduceBNe, Int.reduceBEq, Int.reduceLT, Int.reduceLE, Int.reduceGT, hcl2, hon2]
    obtain ⟨Y, y1, y2, y3, y4, y5⟩ := s2.rowZ
    have hYl : Y.length = (lst o).length := by rw [← y2, List.length_map]
    have hlY : Y.length * 40 ≤ LIM := by rw [hYl]; exact hf.1
    have hup2 : ∀ i, i < nd → upd (upd σd nd (some (.row 1 [cv2]))) (nd + 1) (some (.row 1 [.fn 47 [.ptr 1 1 0 0]])) i = σd i := fun i hi => by
      have a1 : i ≠ nd := by omega
      have a2 : i ≠ nd + 1 := by omega
      simp only [upd_get, a1, a2, if_false]
    have hzY : ∀ z ∈ Y, res T 47 [.agg [.int .u64 z.1.b, .int .u64 z.1.e, .sl 1 ((lst z.1.v).map i32V)], .box [.fn 44 [.box [.int .u64 fl]]]] = some (.bool (!goesP fl z.1)) := fun z hz => by
      have h := r47 z.1.b z.1.e z.1.v fl
      have hv := ha z.1 (by rw [← y2]; exact List.mem_map_of_mem hz)
      rw [hv, slV_some] at h
      rw [h]
      rfl
    refine collectB Y cv2 47 [.ptr 1 1 0 0] (fun z => !goesP fl z.1) nd (nd + 1) 2 rfl rfl ?_ ?_ ?_ ?_ (by omega) (by omega) (by omega) (fun id off len sz he => by have := y5 _ _ _ _ he; omega) (by omega) (by omega) ?_ hlY ?_
    · simp +contextual -implicitDefEqProofs (maxSteps := 2000000) only [↓wP, wQ, wQ1, wQ2, wQ3, wR, boxE, partsOf, ↓reduceIte, Nat.reduceEqDiff, Nat.reduceAdd, Nat.reduceSub, Nat.reduceLeDiff, Nat.reduceLT, Nat.reduceMul, reduceCtorEq, Int.reduceBNe, Int.reduceBEq, Int.reduceLT, Int.reduceLE, Int.reduceGT]
    · simp +contextual -implicitDefEqProofs (maxSteps := 2000000) only [↓wP, wQ, wQ1, wQ2, wQ3, wR, boxE, partsOf, ↓reduceIte, Nat.reduceEqDiff, Nat.reduceAdd, Nat.reduceSub, Nat.reduceLeDiff, Nat.reduceLT, Nat.reduceMul, reduceCtorEq, Int.reduceBNe, Int.reduceBEq, Int.reduceLT, Int.reduceLE, Int.reduceGT]
    · rcases y1 with y1 | ⟨id, e1, e2⟩
      · exact .inl y1
      · exact .inr ⟨id, e1, by rw [hup2 id (by have := y5 _ _ _ _ e1; omega), e2]⟩
    · rw [hup2 2 (by omega), s4 2 (by omega), h2]
    · intro σ' n' z hz hσ
      have k0 : σ' 0 = some (.row 1 [.int .u64 fl]) := by rw [hσ 0 (by omega) (by decide), hup2 0 (by omega), s4 0 (by omega), h0]
      have k1 : σ' 1 = some (.row 1 [.fn 44 [.ptr 0 1 0 0]]) := by rw [hσ 1 (by omega) (by decide), hup2 1 (by omega), s4 1 (by omega), h1]
      have hzb := y4 z hz
      have hv : σ' z.2 = some (.row 1 ((lst z.1.v).map i32V)) := by rw [hσ z.2 (by omega) (by omega), hup2 z.2 (by omega), hzb.2.2]
      have h47 := hzY z hz
      have hle : ((lst z.1.v).length ≤ ((lst z.1.v).map i32V).length) = True := by simp
      have htk : ((lst z.1.v).map i32V).take (lst z.1.v).length = (lst z.1.v).map i32V := by rw [List.take_of_length_le]; simp
      rw [callE_eq (by decide)]
      simp only [ev]
      simp +contextual -implicitDefEqProofs (maxSteps := 2000000) only [↓wP, wQ, wQ1, wQ2, wQ3, wR, boxE, partsOf, ↓reduceIte, Nat.reduceEqDiff, Nat.reduceAdd, Nat.reduceSub, Nat.reduceLeDiff, Nat.reduceLT, Nat.reduceMul, reduceCtorEq, Int.reduceBNe, Int.reduceBEq, Int.reduceLT, Int.reduceLE, Int.reduceGT, k0, k1, hv, frz_rf, hle, htk, hmm, h47]
    · intro σ2 n2 gv2 k1 k2 k3 k4
      have h3 : σ2 3 = some (.row 1 [gv]) := by rw [k1 3 (by omega) (by decide), hup2 3 (by omega), s4 3 (by omega), e3]
      have kg2 : Chn σ2 4 n1 gv (opt (goneL fl (lst o))) := kg.loc (fun i hi hi' => by rw [k1 i (by omega) (by omega), hup2 i (by omega), s4 i (by omega)]) (Nat.le_refl _) (Nat.le_refl _)
      have ks := chn_of_pl (m := n1) (Z := Y.filter fun z => !goesP fl z.1) k4 (List.Nodup.sublist ((List.filter_sublist).map _) y3) (by omega) (fun z hz => by
        have hzb := y4 z (List.mem_filter.1 hz).1
        exact ⟨hzb.1, by omega, by rw [k1 z.2 (by omega) (by omega), hup2 z.2 (by omega), hzb.2.2]⟩) k2
      rw [filter_fst (fun x => !goesP fl x), y2] at ks
      have v1 := kg2.cells
      have v2 := ks.cells
      simp +contextual -implicitDefEqProofs (maxSteps := 2000000) only [↓wP, wQ, wQ1, wQ2, wQ3, wR, boxE, partsOf, ↓reduceIte, Nat.reduceEqDiff, Nat.reduceAdd, Nat.reduceSub, Nat.reduceLeDiff, Nat.reduceLT, Nat.reduceMul, reduceCtorEq, Int.reduceBNe, Int.reduceBEq, Int.reduceLT, Int.reduceLE, Int.reduceGT, h3, k3, v1, v2]
      exact giv_trip ks kg2 (.inr (Nat.le_refl _)) 0

end Go.Q.S4
end

section
/- What an op does, handed back as trees. -/
set_option linter.unusedSimpArgs false
set_option linter.unusedVariables false
namespace Go.Q.S4
open Go.Q

theorem frz_trip {σ : Sto} {m n m' n' : Nat} {v w : V} {o o' : Option (List Ver)} (h : Chn σ m n v o) (h' : Chn σ m' n' w o') (ha : AllS (lst o)) (ha' : AllS (lst o')) (e : Int) :
    Go.Q.frz σ 12 (.tup [v, w, .int .i64 e]) = some (.tup [slV 3 verV o, slV 3 verV o', .int .i64 e]) := by
  simp only [Go.Q.frz, List.mapM_cons, List.mapM_nil, h.frz ha 8, h'.frz ha' 8]
  rfl

theorem close_len (ts : Int) (L : List Ver) : (closeL ts L).length = L.length := by
  unfold closeL
  rcases List.eq_nil_or_concat L with rfl | ⟨A, x, rfl⟩
  · rfl
  · rw [List.concat_eq_append]
    simp only [List.getLast?_append, List.getLast?_singleton, Option.some_or]
    split <;> simp
theorem close_all {ts : Int} {L : List Ver} (h : AllS L) : AllS (closeL ts L) := by
  unfold closeL
  split
  · rename_i x hx
    split
    · intro y hy
      rcases List.mem_append.1 hy with hy | hy
      · exact h y ((List.dropLast_sublist L).subset hy)
      · rw [List.mem_singleton.1 hy]
        exact h x (List.mem_of_getLast? hx)
    · exact h
  · exact h

theorem put_all {o : Option (List Ver)} {ts : Int} {l : List Int} (ha : AllS (lst o)) : AllS (lst (putC o ts l)) := by
  unfold putC
  split
  · intro x hx
    rw [lst_some] at hx
    rcases List.mem_append.1 hx with hx | hx
    · cases o with
      | none => simp [lst] at hx
      | some L => exact close_all (L := L) ha x (by simpa [lst] using hx)
    · rw [List.mem_singleton.1 hx]; rfl
  · intro x hx; simp [lst] at hx
theorem del_all {o : Option (List Ver)} {ts : Int} (ha : AllS (lst o)) : AllS (lst (delO o ts)) := by
  unfold delO
  split
  · cases o with
    | none => exact ha
    | some L => exact close_all (L := L) ha
  · exact fun x hx => by simp [lst] at hx
theorem filter_all {p : Ver → Bool} {L : List Ver} (ha : AllS L) : AllS (lst (opt (L.filter p))) := fun x hx => by
  rw [lst_opt] at hx; exact ha x (List.mem_filter.1 hx).1

theorem vec5_len (v : Option (List Int)) : (vec5 v).length * 4 ≤ LIM := by unfold vec5 LIM; simp; omega

theorem r15u (k ts : Int) (near : Bool) (v : Option (List Int)) (o : Option (List Ver)) (hv : (lst v).length < 9223372036854775808) (hs : Sm o) (hf : FitC o) (hf' : ((lst o).length + 1) * 40 ≤ LIM) (ha : AllS (lst o)) (h3 : k5 k ≠ 3) (h4 : k5 k ≠ 4) :
    res T 15 [.agg [.int .i64 k, .int .u64 ts, .bool near, slV 1 i32V v], slV 3 verV o] =
      some (.tup [slV 3 verV (putC o (opTs k ts near (lastR (lst o))) (vec5 v)), .nilS, .int .i64 (putE o (opTs k ts near (lastR (lst o))) (vec5 v))]) := by
  refine run_res (run_pure (fn := g15) rfl rfl (by decide) ?_)
  simp only [g15, b15]
  have h18 := f18 k ts near v o hs
  have h22 := f22 k ts near v hv
  generalize hL : vec5 v = l at h22
  have hl : l.length * 4 ≤ LIM := by rw [← hL]; exact vec5_len v
  generalize opTs k ts near (lastR (lst o)) = tt at h18
  have m5 := bin_rem .u64 (IntKind.u64.wrap k) 5 (by decide)
  have d3 : ((IntKind.u64.wrap k).tmod 5 == 3) = false := by simpa [k5] using h3
  have d4 : ((IntKind.u64.wrap k).tmod 5 == 4) = false := by simpa [k5] using h4
  have h28 := r28 o tt l hs hf hf' hl ha
  have hm28 : T.mode 28 ≠ .raw := by decide
  have hmm := mapM_enc i32V (fun _ => rfl)
  have hle : (l.length ≤ (l.map i32V).length) = True := by simp
  have htk : (l.map i32V).take l.length = l.map i32V := by rw [List.take_of_length_le]; simp
  rw [slV_some] at h28
  obtain ⟨v', σ', n', h1, h2, h5, h6⟩ := thaw_ownC (upd (upd Sto.empty 0 (some (.row 4 [.agg [.int .i64 k, .int .u64 ts, .bool near, slV 1 i32V v]]))) 1 (some (.row 1 (l.map i32V)))) 2 (putC o tt l)
  simp +contextual -implicitDefEqProofs (maxSteps := 2000000) only [↓wP, wQ, wQ1, wQ2, wQ3, wR, boxE, partsOf, ↓reduceIte, Nat.reduceEqDiff, Nat.reduceAdd, Nat.reduceSub, Nat.reduceLeDiff, Nat.reduceLT, Nat.reduceMul, reduceCtorEq, Int.reduceBNe, Int.reduceBEq, Int.reduceLT, Int.reduceLE, Int.reduceGT, h18, h22, m5, d3, d4, callE_eq hm28, frz_rf, rch_rf, hmm, hle, htk, h28, bk_pair, h1]
  have hv1 : σ' 1 = some (.row 1 (l.map i32V)) := by rw [h6 1 (by omega)]; simp [upd]
  refine WC_for l.length 0 (fun (j : Nat) env σ n => env 8 = .ref 1 0 l.length 1 ∧ env 4 = v' ∧ env 5 = .nilS ∧ env 6 = .int .i64 (putE o tt l) ∧ Chn σ 2 n' v' (putC o tt l) ∧
      ∃ xs : List V, σ 1 = some (.row 1 xs) ∧ xs.length = l.length ∧ ∀ x ∈ xs, ∃ t, x = .int .i32 t)
    (by unfold LIM at hl; omega) (by decide) (by decide) (fun _ _ => rfl) (fun _ _ _ => rfl) ?_ ?_ _ _ _ rfl rfl ?_
  · intro j env σ n hj k1 k2 ⟨k3, k4, k5, k6, k7, xs, k8, k9, k10⟩
    simp only [vl_tmp] at k2
    have hjx : j < xs.length := by omega
    obtain ⟨t, ht⟩ := k10 _ (List.getElem_mem hjx)
    have hx : xs[j]? = some (.int .i32 t) := by rw [List.getElem?_eq_getElem hjx, ht]
    simp +contextual -implicitDefEqProofs (maxSteps := 2000000) only [↓wP, wQ, wQ1, wQ2, wQ3, wR, boxE, partsOf, ↓reduceIte, Nat.reduceEqDiff, Nat.reduceAdd, Nat.reduceSub, Nat.reduceLeDiff, Nat.reduceLT, Nat.reduceMul, reduceCtorEq, Int.reduceBNe, Int.reduceBEq, Int.reduceLT, Int.reduceLE, Int.reduceGT, k1, k2, k3, k4, k5, k6, k8, hj, hx, bin_xor]
    refine ⟨k7.loc (fun i hi _ => ?_) (Nat.le_refl _) (Nat.le_refl _), _, rfl, by simpa using k9, fun x hx => ?_⟩
    · have a1 : i ≠ 1 := by omega
      simp only [upd_get, a1, if_false]
    · rcases List.mem_or_eq_of_mem_set hx with hx | hx
      · exact k10 x hx
      · exact ⟨_, hx⟩
  · intro env σ n ⟨k3, k4, k5, k6, k7, xs, k8, k9, k10⟩ k1 k2
    simp +contextual -implicitDefEqProofs (maxSteps := 2000000) only [↓wP, wQ, wQ1, wQ2, wQ3, wR, boxE, partsOf, ↓reduceIte, Nat.reduceEqDiff, Nat.reduceAdd, Nat.reduceSub, Nat.reduceLeDiff, Nat.reduceLT, Nat.reduceMul, reduceCtorEq, Int.reduceBNe, Int.reduceBEq, Int.reduceLT, Int.reduceLE, Int.reduceGT, k3, k4, k5, k6]
    exact frz_trip (o' := none) (m' := n') (n' := n') k7 rfl (put_all ha) (fun x hx => by simp [lst] at hx) _
  · exact ⟨rfl, rfl, rfl, rfl, h2, _, hv1, by simp, fun x hx => by obtain ⟨t, -, rfl⟩ := List.mem_map.1 hx; exact ⟨t, rfl⟩⟩

theorem r15d (k ts : Int) (near : Bool) (v : Option (List Int)) (o : Option (List Ver)) (hv : (lst v).length < 9223372036854775808) (hs : Sm o) (hf : FitC o) (ha : AllS (lst o)) (h3 : k5 k = 3) :
    res T 15 [.agg [.int .i64 k, .int .u64 ts, .bool near, slV 1 i32V v], slV 3 verV o] =
      some (.tup [slV 3 verV (delO o (opTs k ts near (lastR (lst o)))), .nilS, .int .i64 (delE o (opTs k ts near (lastR (lst o))))]) := by
  refine run_res (run_pure (fn := g15) rfl rfl (by decide) ?_)
  simp only [g15, b15]
  have h18 := f18 k ts near v o hs
  have h22 := f22 k ts near v hv
  generalize hL : vec5 v = l at h22
  generalize opTs k ts near (lastR (lst o)) = tt at h18
  have m5 := bin_rem .u64 (IntKind.u64.wrap k) 5 (by decide)
  have d3 : ((IntKind.u64.wrap k).tmod 5 == 3) = true := by simpa [k5] using h3
  have h33 := callE_thaw (by decide) (r33 o tt hs hf ha) (by simp [Tr, Tr_slV]) true (upd (upd Sto.empty 0 (some (.row 4 [.agg [.int .i64 k, .int .u64 ts, .bool near, slV 1 i32V v]]))) 1 (some (.row 1 (l.map i32V)))) 2 0
  obtain ⟨v', σ', n', h1, h2, h5, h6⟩ := thaw_ownC (upd (upd Sto.empty 0 (some (.row 4 [.agg [.int .i64 k, .int .u64 ts, .bool near, slV 1 i32V v]]))) 1 (some (.row 1 (l.map i32V)))) 2 (delO o tt)
  simp +contextual -implicitDefEqProofs (maxSteps := 2000000) only [↓wP, wQ, wQ1, wQ2, wQ3, wR, boxE, partsOf, ↓reduceIte, Nat.reduceEqDiff, Nat.reduceAdd, Nat.reduceSub, Nat.reduceLeDiff, Nat.reduceLT, Nat.reduceMul, reduceCtorEq, Int.reduceBNe, Int.reduceBEq, Int.reduceLT, Int.reduceLE, Int.reduceGT, h18, h22, m5, d3, h33, h1]
  exact frz_trip (o' := none) (m' := n') (n' := n') h2 rfl (del_all ha) (fun x hx => by simp [lst] at hx) _

theorem r15p (k ts : Int) (near : Bool) (v : Option (List Int)) (o : Option (List Ver)) (hv : (lst v).length < 9223372036854775808) (hs : Sm o) (hf : FitC o) (ha : AllS (lst o)) (h4 : k5 k = 4) :
    res T 15 [.agg [.int .i64 k, .int .u64 ts, .bool near, slV 1 i32V v], slV 3 verV o] =
      some (.tup [slV 3 verV (if okC o = true then opt (staysL (opTs k ts near (lastR (lst o))) (lst o)) else none), slV 3 verV (if okC o = true then opt (goneL (opTs k ts near (lastR (lst o))) (lst o)) else none), .int .i64 (if okC o = true then 0 else 180)]) := by
  refine run_res (run_pure (fn := g15) rfl rfl (by decide) ?_)
  simp only [g15, b15]
  have h18 := f18 k ts near v o hs
  have h22 := f22 k ts near v hv
  generalize hL : vec5 v = l at h22
  generalize opTs k ts near (lastR (lst o)) = tt at h18
  have m5 := bin_rem .u64 (IntKind.u64.wrap k) 5 (by decide)
  have d4 : ((IntKind.u64.wrap k).tmod 5 == 4) = true := by simpa [k5] using h4
  have d3 : ((IntKind.u64.wrap k).tmod 5 == 3) = false := by
    have : (IntKind.u64.wrap k).tmod 5 = 4 := h4
    rw [this]; rfl
  cases hc : okC o
  · have h27 := callE_thaw (by decide) (r27n o tt hs hc) (by simp [Tr, Tr_slV]) true (upd (upd Sto.empty 0 (some (.row 4 [.agg [.int .i64 k, .int .u64 ts, .bool near, slV 1 i32V v]]))) 1 (some (.row 1 (l.map i32V)))) 2 0
    simp +contextual -implicitDefEqProofs (maxSteps := 2000000) only [↓wP, wQ, wQ1, wQ2, wQ3, wR, boxE, partsOf, ↓reduceIte, Nat.reduceEqDiff, Nat.reduceAdd, Nat.reduceSub, Nat.reduceLeDiff, Nat.reduceLT, Nat.reduceMul, reduceCtorEq, Int.reduceBNe, Int.reduceBEq, Int.reduceLT, Int.reduceLE, Int.reduceGT, h18, h22, m5, d3, d4, h27]
    rfl
  · have h27 := callE_thaw (by decide) (r27 o tt hs hf ha hc) (by simp [Tr, Tr_slV]) true (upd (upd Sto.empty 0 (some (.row 4 [.agg [.int .i64 k, .int .u64 ts, .bool near, slV 1 i32V v]]))) 1 (some (.row 1 (l.map i32V)))) 2 0
    obtain ⟨v', σ', n', h1, h2, h5, h6⟩ := thaw_ownC (upd (upd Sto.empty 0 (some (.row 4 [.agg [.int .i64 k, .int .u64 ts, .bool near, slV 1 i32V v]]))) 1 (some (.row 1 (l.map i32V)))) 2 (opt (staysL tt (lst o)))
    obtain ⟨w', σ2, n2, g1, g2, g5, g6⟩ := thaw_ownC σ' n' (opt (goneL tt (lst o)))
    simp +contextual -implicitDefEqProofs (maxSteps := 2000000) only [↓wP, wQ, wQ1, wQ2, wQ3, wR, boxE, partsOf, ↓reduceIte, Nat.reduceEqDiff, Nat.reduceAdd, Nat.reduceSub, Nat.reduceLeDiff, Nat.reduceLT, Nat.reduceMul, reduceCtorEq, Int.reduceBNe, Int.reduceBEq, Int.reduceLT, Int.reduceLE, Int.reduceGT, h18, h22, m5, d3, d4, h27, h1, g1]
    have q1 := (h2.loc (fun i hi hi' => g6 i hi') (Nat.le_refl _) (Nat.le_refl _)).frz (filter_all ha) 8
    have q2 := g2.frz (filter_all ha) 8
    simp only [Nat.reduceAdd] at q1 q2
    rw [q1, q2]
    rfl

def tsOf (k ts : Int) (near : Bool) (o : Option (List Ver)) : Int := opTs k ts near (lastR (lst o))

def runC (k ts : Int) (near : Bool) (v : Option (List Int)) (o : Option (List Ver)) : Option (List Ver) :=
  if k5 k = 3 then delO o (tsOf k ts near o) else if k5 k = 4 then (if okC o = true then opt (staysL (tsOf k ts near o) (lst o)) else none) else putC o (tsOf k ts near o) (vec5 v)
def runG (k ts : Int) (near : Bool) (o : Option (List Ver)) : Option (List Ver) := if k5 k = 4 then (if okC o = true then opt (goneL (tsOf k ts near o) (lst o)) else none) else none
def runE (k ts : Int) (near : Bool) (v : Option (List Int)) (o : Option (List Ver)) : Int :=
  if k5 k = 3 then delE o (tsOf k ts near o) else if k5 k = 4 then (if okC o = true then 0 else 180) else putE o (tsOf k ts near o) (vec5 v)

theorem r15 (k ts : Int) (near : Bool) (v : Option (List Int)) (o : Option (List Ver)) (hv : (lst v).length < 9223372036854775808) (hs : Sm o) (hf : FitC o) (hf' : ((lst o).length + 1) * 40 ≤ LIM) (ha : AllS (lst o)) :
    res T 15 [.agg [.int .i64 k, .int .u64 ts, .bool near, slV 1 i32V v], slV 3 verV o] = some (.tup [slV 3 verV (runC k ts near v o), slV 3 verV (runG k ts near o), .int .i64 (runE k ts near v o)]) := by
  by_cases h3 : k5 k = 3
  · rw [r15d k ts near v o hv hs hf ha h3]
    simp only [runC, runG, runE, h3, if_true, tsOf]
    rfl
  · by_cases h4 : k5 k = 4
    · rw [r15p k ts near v o hv hs hf ha h4]
      simp only [runC, runG, runE, h4, if_true, tsOf]
      rfl
    · rw [r15u k ts near v o hv hs hf hf' ha h3 h4]
      simp only [runC, runG, runE, h3, h4, if_false, tsOf]
      rfl

end Go.Q.S4
end

section
/- The layer does something. -/
set_option linter.unusedSimpArgs false
set_option linter.unusedVariables false
namespace Go.Q.S4
open Go.Q

def isTrue' : Option Out → Bool
  | some (.val (.bool true)) => true
  | _ => false
theorem isTrue_eq {o : Option Out} (h : isTrue' o = true) : o = some (.val (.bool true)) := by
  unfold isTrue' at h
  split at h
  · rfl
  · cases h

theorem r9 : res T 9 [] = some (.bool true) := by
  have h : isTrue' (exJob T 60 (.pure 9 [])) = true := by decide +kernel
  exact run_res (exJob_sound 60 _ _ (isTrue_eq h))
theorem f9 (fs : Bool) (σ : Sto) (n lk : Nat) : callE T fs 9 [] σ n lk = some (.bool true, σ, n) := callE_tr (by decide) r9 rfl rfl fs σ n lk
end Go.Q.S4
end

section
/- At each time one version is visible at most. -/
set_option linter.unusedSimpArgs false
set_option linter.unusedVariables false
namespace Go.Q.S4
open Go.Q

theorem chk_le {d : Int} : ∀ {last : Int} {l : List Ver}, chk d last l = true → ∀ y ∈ l, last ≤ y.b
  | _, [], _, y, hy => by simp at hy
  | last, x :: xs, h, y, hy => by
    simp only [chk, okVer, Bool.and_eq_true, decide_eq_true_eq, Bool.or_eq_true, beq_iff_eq, Bool.not_eq_true', beq_eq_false_iff_ne] at h
    rcases List.mem_cons.1 hy with rfl | hy
    · exact h.1.1.1.1.1.1.2
    · have h1 := chk_le h.2 y hy
      have h2 := h.1.1.1.2
      have h3 := h.1.2
      have h4 := h.1.1.1.1.1.1.2
      cases xs with
      | nil => simp at hy
      | cons z zs =>
        simp only [List.isEmpty_cons, Bool.false_eq_true, or_false] at h3
        omega

theorem chk_uniq {d t : Int} : ∀ {last : Int} {l : List Ver}, chk d last l = true → ∀ (a b : Nat) (x y : Ver), a < b → l[a]? = some x → l[b]? = some y → vis x t = true → vis y t = true → False
  | _, [], _, a, b, x, y, _, ha, _, _, _ => by simp at ha
  | last, z :: zs, h, a, b, x, y, hab, ha, hb, hx, hy => by
    cases b with
    | zero => omega
    | succ b =>
      simp only [List.getElem?_cons_succ] at hb
      have hc : chk d z.e zs = true := by simp only [chk, Bool.and_eq_true] at h; exact h.2
      cases a with
      | succ a => exact chk_uniq hc a b x y (by omega) (by simpa using ha) hb hx hy
      | zero =>
        simp only [List.getElem?_cons_zero, Option.some.injEq] at ha
        subst ha
        have h1 := chk_le hc y (List.mem_of_getElem? hb)
        have hne : zs.isEmpty = false := by cases zs <;> simp at hb ⊢
        simp only [chk, okVer, hne, Bool.and_eq_true, decide_eq_true_eq, Bool.or_eq_true, beq_iff_eq, Bool.not_eq_true', beq_eq_false_iff_ne, Bool.false_eq_true, or_false] at h
        simp only [vis, Bool.and_eq_true, decide_eq_true_eq, Bool.or_eq_true, beq_iff_eq] at hx hy
        have h3 := h.1.2
        omega

/-- In a chain that may be: what is visible is where it is found. -/
theorem vis_pos {o : Option (List Ver)} {t : Int} (h : okC o = true) {k : Nat} {x : Ver} (hk : (lst o)[k]? = some x) (hv : vis x t = true) : posV o t = (k : Int) := by
  unfold okC at h
  rw [Bool.and_eq_true] at h
  unfold posV idxF
  cases hf : (lst o).findIdx? (fun x => vis x t) with
  | none =>
    rw [List.findIdx?_eq_none_iff] at hf
    have := hf x (List.mem_of_getElem? hk)
    rw [this] at hv; cases hv
  | some i =>
    rw [List.findIdx?_eq_some_iff_getElem] at hf
    obtain ⟨hi, hp, hmin⟩ := hf
    have e1 : (lst o)[i]? = some (lst o)[i] := List.getElem?_eq_getElem hi
    rcases Nat.lt_trichotomy i k with hik | hik | hik
    · exact (chk_uniq h.2 i k _ _ hik e1 hk hp hv).elim
    · simp [hik]
    · exact (chk_uniq h.2 k i _ _ hik hk e1 hv hp).elim

theorem pos_lt (o : Option (List Ver)) (t : Int) : posV o t < ((lst o).length : Int) := by
  unfold posV idxF
  cases hf : (lst o).findIdx? (fun x => vis x t) with
  | none => simp only; omega
  | some i =>
    rw [List.findIdx?_eq_some_iff_getElem] at hf
    obtain ⟨hi, -⟩ := hf
    simp only; omega

theorem pos_ge (o : Option (List Ver)) (t : Int) : -1 ≤ posV o t := by
  unfold posV idxF
  split <;> omega

theorem pos_vis {o : Option (List Ver)} {t : Int} {k : Nat} {x : Ver} (hk : (lst o)[k]? = some x) (hp : posV o t = (k : Int)) : vis x t = true := by
  unfold posV idxF at hp
  cases hf : (lst o).findIdx? (fun x => vis x t) with
  | none => rw [hf] at hp; simp only at hp; omega
  | some i =>
    rw [hf] at hp
    rw [List.findIdx?_eq_some_iff_getElem] at hf
    obtain ⟨hi, hv, -⟩ := hf
    simp only [Int.ofNat_inj] at hp
    subst hp
    rw [List.getElem?_eq_getElem hi] at hk
    cases hk
    exact hv

theorem few_len (o : Option (List Ver)) : (lst (fewO o)).length ≤ 97 := by rw [fewO, lst_opt]; simp; omega
theorem few_sm (o : Option (List Ver)) : Sm (fewO o) := by
  refine ⟨by have := few_len o; omega, fun x hx => ?_⟩
  rw [fewO, lst_opt] at hx
  obtain ⟨y, -, rfl⟩ := List.mem_map.1 hx
  simp only [fewV, lst_some, List.length_take]
  omega

/-- How many are visible among the first ones. -/
def cnt (o : Option (List Ver)) (t : Int) (k : Nat) : Int := if 0 ≤ posV o t ∧ posV o t < (k : Int) then 1 else 0

theorem cnt_end {o : Option (List Ver)} {t : Int} (h : okC o = true) : (decide (1 < cnt o t (lst o).length) || ((cnt o t (lst o).length == 1) == atB o t) != true) = false := by
  have := pos_lt o t
  unfold cnt atB
  by_cases h0 : 0 ≤ posV o t
  · rw [if_pos ⟨h0, this⟩]; simp [h0, h]
  · rw [if_neg (fun hh => h0 hh.1)]; simp [h0]

theorem r3 (o : Option (List Ver)) (l : Option (List Int)) (hs : Sm o) (hl : (lst l).length * 8 ≤ 140737488351232) : res T 3 [slV 3 verV o, slV 1 u64V l] = some (.bool true) := by
  refine run_res (run_pure (fn := g3) rfl rfl (by decide) ?_)
  simp only [g3, b3]
  have h10 := f10 o hs
  have h11 := f11 (fewO o) (few_sm o)
  have h12 := f12 (fewO o) (few_len o)
  simp +contextual -implicitDefEqProofs (maxSteps := 2000000) only [↓wP, wQ, wQ1, wQ2, wQ3, wR, boxE, partsOf, ↓reduceIte, Nat.reduceEqDiff, Nat.reduceAdd, Nat.reduceSub, Nat.reduceLeDiff, Nat.reduceLT, Nat.reduceMul, reduceCtorEq, Int.reduceBNe, Int.reduceBEq, Int.reduceLT, Int.reduceLE, Int.reduceGT, f9, h10, h11]
  cases hc : okC (fewO o)
  · simp +contextual -implicitDefEqProofs (maxSteps := 2000000) only [↓wP, wQ, wQ1, wQ2, wQ3, wR, boxE, partsOf, ↓reduceIte, Nat.reduceEqDiff, Nat.reduceAdd, Nat.reduceSub, Nat.reduceLeDiff, Nat.reduceLT, Nat.reduceMul, reduceCtorEq, Int.reduceBNe, Int.reduceBEq, Int.reduceLT, Int.reduceLE, Int.reduceGT]
  · have hlen := timL_len (lst (fewO o))
    have hfl := few_len o
    have hlim : (((timL (lst (fewO o))).map u64V).length + ((lst l).map u64V).length) * 8 ≤ LIM := by unfold LIM; simp; omega
    simp +contextual -implicitDefEqProofs (maxSteps := 2000000) only [↓wP, wQ, wQ1, wQ2, wQ3, wR, boxE, partsOf, ↓reduceIte, Nat.reduceEqDiff, Nat.reduceAdd, Nat.reduceSub, Nat.reduceLeDiff, Nat.reduceLT, Nat.reduceMul, reduceCtorEq, Int.reduceBNe, Int.reduceBEq, Int.reduceLT, Int.reduceLE, Int.reduceGT, h12, hlim]
    generalize hA : (timL (lst (fewO o))).map u64V = A at hlim ⊢
    generalize hB : (lst l).map u64V = B at hlim ⊢
    have hR : ∀ j, j < A.length + B.length → ∃ t, (A ++ B)[j]? = some (V.int .u64 t) := by
      intro j hj
      have : A ++ B = (timL (lst (fewO o)) ++ lst l).map u64V := by rw [List.map_append, hA, hB]
      have hj' : j < ((timL (lst (fewO o)) ++ lst l).map u64V).length := by rw [← this, List.length_append]; exact hj
      exact ⟨_, by rw [this, List.getElem?_eq_getElem hj', List.getElem_map]; rfl⟩
    refine WC_for (A.length + B.length) 0 (fun (j : Nat) env σ n => env 5 = slV 3 verV (fewO o) ∧ ∃ i, env 23 = .ref i 0 (A.length + B.length) 1 ∧ σ i = some (.row 1 (A ++ B)) ∧ i < n)
      (by unfold LIM at hlim; omega) (by decide) (by decide) (fun _ _ => rfl) (fun _ _ _ => rfl) ?_ ?_ _ _ _ rfl rfl ?_
    · intro j env σ n hj h1 h2 ⟨h3, i, h4, h5, h6⟩
      simp only [vl_tmp] at h2
      obtain ⟨t, hx⟩ := hR j hj
      have h13 := f13 (fewO o) t (few_sm o)
      by_cases h400 : (j : Int) = 400
      · have hd : ((j : Int) == 400) = true := by simpa using h400
        simp +contextual -implicitDefEqProofs (maxSteps := 2000000) only [↓wP, wQ, wQ1, wQ2, wQ3, wR, boxE, partsOf, ↓reduceIte, Nat.reduceEqDiff, Nat.reduceAdd, Nat.reduceSub, Nat.reduceLeDiff, Nat.reduceLT, Nat.reduceMul, reduceCtorEq, Int.reduceBNe, Int.reduceBEq, Int.reduceLT, Int.reduceLE, Int.reduceGT, h1, h2, h3, h4, h5, hx, hj, hd]
      · have hd : ((j : Int) == 400) = false := by simpa using h400
        simp +contextual -implicitDefEqProofs (maxSteps := 2000000) only [↓wP, wQ, wQ1, wQ2, wQ3, wR, boxE, partsOf, ↓reduceIte, Nat.reduceEqDiff, Nat.reduceAdd, Nat.reduceSub, Nat.reduceLeDiff, Nat.reduceLT, Nat.reduceMul, reduceCtorEq, Int.reduceBNe, Int.reduceBEq, Int.reduceLT, Int.reduceLE, Int.reduceGT, h1, h2, h3, h4, h5, hx, hj, hd, h13]
        refine WC_for (lst (fewO o)).length 0 (fun (k : Nat) env σ n => env 5 = slV 3 verV (fewO o) ∧ env 23 = .ref i 0 (A.length + B.length) 1 ∧ env 24 = .int .i64 ((A.length + B.length : Nat) : Int) ∧
              env 25 = .int .i64 (j : Int) ∧ σ i = some (.row 1 (A ++ B)) ∧ i < n ∧ env 38 = slV 3 verV (fewO o) ∧ env 7 = .int .u64 t ∧
              env 9 = .int .i64 (atI (fewO o) t) ∧ env 10 = .bool (atB (fewO o) t) ∧ env 8 = .int .i64 (cnt (fewO o) t k))
            (by omega) (by decide) (by decide) (fun _ _ => rfl) (fun _ _ _ => rfl) ?_ ?_ _ _ _ rfl rfl ?_
        · clear h1 h2 h3 h4 h5 h6
          intro k env σ n hk k1 k2 ⟨k3, k4, k5, k6, k7, k8, k9, k10, k11, k12, k13⟩
          simp only [vl_tmp] at k2
          have hxk : (lst (fewO o))[k]? = some (lst (fewO o))[k] := List.getElem?_eq_getElem hk
          have hvis : (decide ((lst (fewO o))[k].b ≤ t) && ((lst (fewO o))[k].e == 0 || decide (t < (lst (fewO o))[k].e))) = vis (lst (fewO o))[k] t := rfl
          have hin : (i = n) = False := by simp; omega
          simp +contextual -implicitDefEqProofs (maxSteps := 2000000) only [↓wP, wQ, wQ1, wQ2, wQ3, wR, boxE, partsOf, ↓reduceIte, Nat.reduceEqDiff, Nat.reduceAdd, Nat.reduceSub, Nat.reduceLeDiff, Nat.reduceLT, Nat.reduceMul, reduceCtorEq, Int.reduceBNe, Int.reduceBEq, Int.reduceLT, Int.reduceLE, Int.reduceGT, k1, k2, k3, k4, k5, k6, k7, k8, k9, k10, k11, k12, k13, hxk, verV, hvis]
          refine condC_split (fun hv => ?_) (fun hv => ?_)
          · have hp := vis_pos hc hxk hv
            have c0 : cnt (fewO o) t k = 0 := by unfold cnt; rw [hp]; simp
            have c1 : cnt (fewO o) t (k + 1) = 1 := by unfold cnt; rw [hp]; simp; omega
            have hB : atB (fewO o) t = true := by unfold atB; rw [hp, hc]; simp
            have hI : ((k : Int) != atI (fewO o) t) = false := by unfold atI; rw [hB, if_pos rfl, hp]; simp
            have hw : IntKind.i64.wrap (0 + 1) = 1 := by decide
            simp +contextual -implicitDefEqProofs (maxSteps := 2000000) only [↓wP, wQ, wQ1, wQ2, wQ3, wR, boxE, partsOf, ↓reduceIte, Nat.reduceEqDiff, Nat.reduceAdd, Nat.reduceSub, Nat.reduceLeDiff, Nat.reduceLT, Nat.reduceMul, reduceCtorEq, Int.reduceBNe, Int.reduceBEq, Int.reduceLT, Int.reduceLE, Int.reduceGT, k1, k2, k3, k4, k5, k6, k7, k8, k9, k10, k11, k12, k13, c0, c1, hI, hw, hin]
            omega
          · have c1 : cnt (fewO o) t (k + 1) = cnt (fewO o) t k := by
              unfold cnt
              have : posV (fewO o) t ≠ (k : Int) := fun hp => by rw [pos_vis hxk hp] at hv; cases hv
              split <;> split <;> omega
            simp +contextual -implicitDefEqProofs (maxSteps := 2000000) only [↓wP, wQ, wQ1, wQ2, wQ3, wR, boxE, partsOf, ↓reduceIte, Nat.reduceEqDiff, Nat.reduceAdd, Nat.reduceSub, Nat.reduceLeDiff, Nat.reduceLT, Nat.reduceMul, reduceCtorEq, Int.reduceBNe, Int.reduceBEq, Int.reduceLT, Int.reduceLE, Int.reduceGT, k1, k2, k3, k4, k5, k6, k7, k8, k9, k10, k11, k12, k13, c1, hin]
            omega
        · clear h1 h2 h3 h4 h5 h6
          intro env σ n ⟨k3, k4, k5, k6, k7, k8, k9, k10, k11, k12, k13⟩ k1 k2
          have hend := cnt_end (t := t) hc
          simp +contextual -implicitDefEqProofs (maxSteps := 2000000) only [↓wP, wQ, wQ1, wQ2, wQ3, wR, boxE, partsOf, ↓reduceIte, Nat.reduceEqDiff, Nat.reduceAdd, Nat.reduceSub, Nat.reduceLeDiff, Nat.reduceLT, Nat.reduceMul, reduceCtorEq, Int.reduceBNe, Int.reduceBEq, Int.reduceLT, Int.reduceLE, Int.reduceGT, k1, k2, k3, k4, k5, k6, k7, k8, k9, k10, k11, k12, k13, hend]
          exact ⟨i, rfl, k7, k8⟩
        · have c0 : cnt (fewO o) t 0 = 0 := by unfold cnt; rw [if_neg]; omega
          simp +contextual -implicitDefEqProofs (maxSteps := 2000000) only [↓wP, wQ, wQ1, wQ2, wQ3, wR, boxE, partsOf, ↓reduceIte, Nat.reduceEqDiff, Nat.reduceAdd, Nat.reduceSub, Nat.reduceLeDiff, Nat.reduceLT, Nat.reduceMul, reduceCtorEq, Int.reduceBNe, Int.reduceBEq, Int.reduceLT, Int.reduceLE, Int.reduceGT, h1, h2, h3, h4, h5, h6, c0]
    · intro env σ n ⟨h3, i, h4, h5, h6⟩ h1 h2
      simp +contextual -implicitDefEqProofs (maxSteps := 2000000) only [↓wP, wQ, wQ1, wQ2, wQ3, wR, boxE, partsOf, ↓reduceIte, Nat.reduceEqDiff, Nat.reduceAdd, Nat.reduceSub, Nat.reduceLeDiff, Nat.reduceLT, Nat.reduceMul, reduceCtorEq, Int.reduceBNe, Int.reduceBEq, Int.reduceLT, Int.reduceLE, Int.reduceGT]
    · simp +contextual -implicitDefEqProofs (maxSteps := 2000000) only [↓wP, wQ, wQ1, wQ2, wQ3, wR, boxE, partsOf, ↓reduceIte, Nat.reduceEqDiff, Nat.reduceAdd, Nat.reduceSub, Nat.reduceLeDiff, Nat.reduceLT, Nat.reduceMul, reduceCtorEq, Int.reduceBNe, Int.reduceBEq, Int.reduceLT, Int.reduceLE, Int.reduceGT]
      exact ⟨1, rfl, by simp [upd], by omega⟩

theorem f3 (o : Option (List Ver)) (l : Option (List Int)) (hs : Sm o) (hl : (lst l).length * 8 ≤ 140737488351232) (fs : Bool) (σ : Sto) (n lk : Nat) : callE T fs 3 [slV 3 verV o, slV 1 u64V l] σ n lk = some (.bool true, σ, n) :=
  callE_tr (by decide) (r3 o l hs hl) (by simp [Tr, Tr_slV]) rfl fs σ n lk

end Go.Q.S4
end

section
/- What was visible stays: the plain law. -/
set_option linter.unusedSimpArgs false
set_option linter.unusedVariables false
namespace Go.Q.S4
open Go.Q

def okOne (d : Int) (x : Ver) : Bool := decide (0 < x.b) && decide (x.b ≤ 1099511627776) && decide (x.e ≤ 1099511627776) && (x.e == 0 || decide (x.b < x.e)) && (okV x.v && ((lst x.v).length : Int) == d)
theorem okVer_one (d L : Int) (fin : Bool) (x : Ver) : okVer d L fin x = (okOne d x && decide (L ≤ x.b) && (!x.e == 0 || fin)) := by
  simp only [okVer, okOne]
  generalize decide (0 < x.b) = p1
  generalize decide (L ≤ x.b) = p2
  cases p1 <;> cases p2 <;> simp

theorem chk_filter {d : Int} (p : Ver → Bool) : ∀ {L L' : Int} {l : List Ver}, chk d L l = true → L' ≤ L → chk d L' (l.filter p) = true
  | _, _, [], _, _ => rfl
  | L, L', x :: xs, h, hL => by
    rw [chk, okVer_one] at h
    simp only [Bool.and_eq_true, decide_eq_true_eq, Bool.or_eq_true, Bool.not_eq_true', beq_eq_false_iff_ne] at h
    obtain ⟨⟨⟨h1, h2⟩, h3⟩, h4⟩ := h
    rw [List.filter_cons]
    split
    · rw [chk, okVer_one, h1, chk_filter p h4 (Int.le_refl _)]
      have e1 : decide (L' ≤ x.b) = true := decide_eq_true (by omega)
      rw [e1]
      rcases h3 with h3 | h3
      · simp [h3]
      · rw [List.isEmpty_iff] at h3
        subst h3
        simp
    · have h5 := h1
      simp only [okOne, Bool.and_eq_true, decide_eq_true_eq, Bool.or_eq_true, beq_iff_eq] at h5
      rcases h3 with h3 | h3
      · refine chk_filter p h4 ?_
        have := h5.1.2
        omega
      · rw [List.isEmpty_iff] at h3
        subst h3
        rfl

theorem chk_dim {d : Int} : ∀ {L : Int} {l : List Ver}, chk d L l = true → ∀ x ∈ l, ((lst x.v).length : Int) = d
  | _, [], _, x, hx => by simp at hx
  | L, y :: ys, h, x, hx => by
    rw [chk, okVer_one] at h
    simp only [Bool.and_eq_true, okOne, beq_iff_eq] at h
    rcases List.mem_cons.1 hx with rfl | hx
    · exact h.1.1.1.2.2
    · exact chk_dim h.2 x hx

theorem okC_filter {o : Option (List Ver)} (p : Ver → Bool) (h : okC o = true) : okC (opt ((lst o).filter p)) = true := by
  unfold okC at h ⊢
  rw [Bool.and_eq_true, decide_eq_true_eq] at h
  rw [lst_opt, Bool.and_eq_true, decide_eq_true_eq]
  refine ⟨Nat.le_trans (List.length_filter_le _ _) h.1, ?_⟩
  have h2 := chk_filter p h.2 (Int.le_refl _)
  cases hf : (lst o).filter p with
  | nil => rfl
  | cons y ys =>
    have hy : y ∈ (lst o).filter p := by rw [hf]; simp
    have hd := chk_dim h.2 y (List.mem_filter.1 hy).1
    rw [hf] at h2
    have e : dimOf (y :: ys) = dimOf (lst o) := hd
    rw [e]
    exact h2


/-- What is shown at a time. -/
def shL (L : List Ver) (t : Int) : Option (List Int) := (L.find? fun x => vis x t).bind (fun x => x.v)
def shV (o : Option (List Ver)) (t : Int) : Option (List Int) := if okC o = true then shL (lst o) t else none

theorem find_idx {α : Type} (p : α → Bool) : ∀ l : List α, l.find? p = if 0 ≤ idxF p l then l[(idxF p l).toNat]? else none
  | [] => rfl
  | x :: l => by
    have h := find_idx p l
    unfold idxF at h ⊢
    rw [List.find?_cons, List.findIdx?_cons]
    cases hp : p x
    · simp only [Bool.false_eq_true, if_false]
      rw [h]
      cases l.findIdx? p with
      | none => rfl
      | some k =>
        simp only [Option.map_some]
        rw [if_pos (by omega), if_pos (by omega)]
        simp
    · simp

theorem find_congr {α : Type} {p q : α → Bool} : ∀ {l : List α}, (∀ x ∈ l, p x = q x) → l.find? p = l.find? q
  | [], _ => rfl
  | x :: l, h => by rw [List.find?_cons, List.find?_cons, h x (by simp), find_congr fun y hy => h y (List.mem_cons_of_mem _ hy)]

theorem sh_filter {fl t : Int} (h : fl ≤ t) (L : List Ver) : shL (staysL fl L) t = shL L t := by
  unfold shL staysL
  rw [List.find?_filter]
  congr 1
  refine find_congr fun x _ => ?_
  unfold goesP vis
  by_cases h0 : x.e = 0
  · simp [h0]
  · by_cases h1 : x.e ≤ fl
    · have : ¬ t < x.e := by omega
      simp [h0, h1, this]
    · simp only [h1, decide_false, Bool.and_false, Bool.not_false, Bool.true_and]
      by_cases a : x.b ≤ t <;> by_cases b : t < x.e <;> simp [a, b, h0, h1]

theorem sh_close {ts t : Int} (h : t < ts) (h0 : 0 < ts) (L : List Ver) : shL (closeL ts L) t = shL L t := by
  unfold closeL
  split
  · rename_i x hx
    split
    · rename_i he
      have e : L = L.dropLast ++ [x] := by
        have hne : L ≠ [] := by intro hn; rw [hn] at hx; simp at hx
        have := List.dropLast_concat_getLast hne
        rw [List.getLast?_eq_some_getLast hne, Option.some.injEq] at hx
        rw [hx] at this
        exact this.symm
      unfold shL
      conv => rhs; rw [e]
      rw [List.find?_append, List.find?_append]
      cases List.find? (fun x => vis x t) L.dropLast with
      | some y => rfl
      | none =>
        have hv : vis ⟨x.b, ts, x.v⟩ t = vis x t := by
          unfold vis
          have : ts ≠ 0 := by omega
          simp [he, this, h]
        simp only [Option.none_or, List.find?_cons, List.find?_nil, hv]
        cases vis x t <;> rfl
    · rfl
  · rfl

theorem sh_snoc {ts t : Int} (h : t < ts) (L : List Ver) (l : List Int) : shL (L ++ [⟨ts, 0, some l⟩]) t = shL L t := by
  unfold shL
  rw [List.find?_append]
  have hv : vis ⟨ts, 0, some l⟩ t = false := by
    unfold vis
    have : ¬ ts ≤ t := by omega
    simp [this]
  simp only [List.find?_cons, List.find?_nil, hv]
  cases List.find? (fun x => vis x t) L <;> rfl

theorem sh_new {ts t : Int} (h : ts ≤ t) {L : List Ver} (hL : ∀ x ∈ L, x.e ≠ 0 ∧ x.e ≤ ts) (l : List Int) : shL (L ++ [⟨ts, 0, some l⟩]) t = some l := by
  unfold shL
  have hn : List.find? (fun x => vis x t) L = none := by
    rw [List.find?_eq_none]
    intro x hx
    have := hL x hx
    unfold vis
    have h1 : ¬ t < x.e := by omega
    simp [this.1, h1]
  have hv : vis ⟨ts, 0, some l⟩ t = true := by
    unfold vis
    simp [h]
  rw [List.find?_append, hn]
  simp [hv]

theorem sh_none {t : Int} {L : List Ver} (hL : ∀ x ∈ L, x.e ≠ 0 ∧ x.e ≤ t) : shL L t = none := by
  unfold shL
  have hn : List.find? (fun x => vis x t) L = none := by
    rw [List.find?_eq_none]
    intro x hx
    have := hL x hx
    unfold vis
    have h1 : ¬ t < x.e := by omega
    simp [this.1, h1]
  rw [hn]; rfl

theorem close_cons2 (ts : Int) (x y : Ver) (l : List Ver) : closeL ts (x :: y :: l) = x :: closeL ts (y :: l) := by
  unfold closeL
  rw [List.getLast?_cons_cons]
  split
  · split
    · rw [List.dropLast_cons_cons]; rfl
    · rfl
  · rfl
theorem close_one (ts : Int) (x : Ver) : closeL ts [x] = [if x.e = 0 then ⟨x.b, ts, x.v⟩ else x] := by
  unfold closeL
  simp only [List.getLast?_singleton]
  split <;> rfl
theorem lastC_cons2 (x y : Ver) (l : List Ver) : lastC (x :: y :: l) = lastC (y :: l) := by
  unfold lastC; rw [List.getLast?_cons_cons]

theorem mx_le {x y z : Int} (h : mx x y < z) : x < z ∧ y < z := by unfold mx at h; split at h <;> omega

theorem close_ends {d ts : Int} : ∀ {L : Int} {l : List Ver}, chk d L l = true → lastC l < ts → ∀ x ∈ closeL ts l, (x.e ≠ 0 ∨ ts = 0) ∧ x.e ≤ ts
  | _, [], _, _, x, hx => by simp [closeL] at hx
  | _, [y], h, hl, x, hx => by
    rw [close_one, List.mem_singleton] at hx
    have hl : mx y.b y.e < ts := hl
    have := mx_le hl
    subst hx
    split
    · simp only; omega
    · omega
  | L, y :: z :: l, h, hl, x, hx => by
    rw [close_cons2] at hx
    rw [chk, okVer_one] at h
    simp only [Bool.and_eq_true, decide_eq_true_eq, Bool.or_eq_true, Bool.not_eq_true', beq_eq_false_iff_ne, List.isEmpty_cons, Bool.false_eq_true, or_false] at h
    rw [lastC_cons2] at hl
    rcases List.mem_cons.1 hx with rfl | hx
    · have h1 := chk_le h.2 z (by simp)
      have h2 : z.b ≤ lastC (z :: l) := by
        clear hx hl
        have hh := h.2
        clear h h1
        generalize x.e = L' at hh
        induction l generalizing z L' with
        | nil => show z.b ≤ mx z.b z.e; unfold mx; split <;> omega
        | cons w l ih =>
          rw [chk, okVer_one] at hh
          simp only [Bool.and_eq_true, decide_eq_true_eq, Bool.or_eq_true, Bool.not_eq_true', beq_eq_false_iff_ne, List.isEmpty_cons, Bool.false_eq_true, or_false] at hh
          have a1 := ih w _ hh.2
          have a2 := chk_le hh.2 w (by simp)
          have a3 := hh.1.1.1
          simp only [okOne, Bool.and_eq_true, decide_eq_true_eq, Bool.or_eq_true, beq_iff_eq] at a3
          rw [lastC_cons2]
          have a4 := a3.1.2
          have a5 := hh.1.2
          omega
      exact ⟨.inl h.1.2, by omega⟩
    · exact close_ends h.2 hl x hx

theorem close_ne {ts : Int} {l : List Ver} (h : l ≠ []) : (closeL ts l).isEmpty = false := by
  cases hc : closeL ts l with
  | nil => have := close_len ts l; rw [hc] at this; cases l <;> simp_all
  | cons => rfl

theorem chk_close {d ts : Int} (ht : ts ≤ 1099511627776) : ∀ {L : Int} {l : List Ver}, chk d L l = true → lastC l < ts → chk d L (closeL ts l) = true
  | _, [], _, _ => rfl
  | L, [y], h, hl => by
    have hl : mx y.b y.e < ts := hl
    have hm := mx_le hl
    rw [close_one]
    split
    · rw [chk, okVer_one] at h ⊢
      simp only [okOne, Bool.and_eq_true, decide_eq_true_eq, Bool.or_eq_true, Bool.not_eq_true', beq_eq_false_iff_ne, beq_iff_eq, List.isEmpty_nil, or_true, and_true, chk] at h ⊢
      exact ⟨⟨⟨⟨h.1.1.1.1, ht⟩, .inr hm.1⟩, h.1.2⟩, h.2⟩
    · exact h
  | L, y :: z :: l, h, hl => by
    rw [close_cons2]
    rw [lastC_cons2] at hl
    rw [chk, Bool.and_eq_true] at h ⊢
    rw [close_ne (by simp)]
    exact ⟨h.1, chk_close ht h.2 hl⟩

theorem chk_snoc {d ts : Int} {w : Ver} (hb : w.b = ts) (hw : okOne d w = true) : ∀ {L : Int} {l : List Ver}, chk d L l = true → L ≤ ts → lastC l < ts → (∀ x ∈ l, x.e ≠ 0 ∧ x.e ≤ ts) → chk d L (l ++ [w]) = true
  | L, [], _, hL, _, _ => by
    rw [List.nil_append, chk, okVer_one, hw]
    simp [chk, hb, hL]
  | L, [y], h, hL, hl, he => by
    have hy := he y (by simp)
    rw [chk, okVer_one] at h
    simp only [Bool.and_eq_true, decide_eq_true_eq] at h
    rw [List.singleton_append, chk, okVer_one, chk, okVer_one, hw]
    simp [chk, hb, hy.1, hy.2, h.1.1.1, h.1.1.2]
  | L, y :: z :: l, h, hL, hl, he => by
    rw [lastC_cons2] at hl
    rw [chk, Bool.and_eq_true] at h
    rw [List.cons_append, chk, Bool.and_eq_true]
    exact ⟨h.1, chk_snoc hb hw h.2 (he y (by simp)).2 hl fun x hx => he x (List.mem_cons_of_mem _ hx)⟩

theorem dim_close (ts : Int) (l : List Ver) : dimOf (closeL ts l) = dimOf l := by
  cases l with
  | nil => rfl
  | cons y l =>
    cases l with
    | nil => rw [close_one]; split <;> rfl
    | cons z l => rw [close_cons2]; rfl

theorem chk_pos {d L : Int} {x : Ver} {l : List Ver} (h : chk d L (x :: l) = true) : 0 < x.b := by
  rw [chk, okVer_one] at h
  simp only [okOne, Bool.and_eq_true, decide_eq_true_eq] at h
  exact h.1.1.1.1.1.1.1

theorem lastC_pos {d : Int} : ∀ {L : Int} {l : List Ver}, chk d L l = true → 0 ≤ lastC l
  | _, [], _ => by decide
  | _, [y], h => by
    have := chk_pos h
    show 0 ≤ mx y.b y.e
    unfold mx; split <;> omega
  | _, y :: z :: l, h => by
    rw [chk, Bool.and_eq_true] at h
    rw [lastC_cons2]
    exact lastC_pos h.2

theorem lastC_close {ts : Int} {l : List Ver} (ho : openL l = true) (hl : lastC l < ts) : lastC (closeL ts l) = ts := by
  unfold openL at ho
  unfold lastC at hl
  unfold closeL
  split at ho
  · rename_i x hx
    rw [hx] at hl
    simp only [beq_iff_eq] at ho
    simp only [ho, if_true]
    unfold lastC
    rw [List.getLast?_concat]
    have := (mx_le hl).1
    show mx x.b ts = ts
    unfold mx; rw [if_pos this]
  · cases ho

theorem len_part (p : Ver → Bool) : ∀ l : List Ver, (l.filter fun x => !p x).length + (l.filter p).length = l.length
  | [] => rfl
  | x :: l => by
    have := len_part p l
    rw [List.filter_cons, List.filter_cons]
    cases p x <;> simp <;> omega

theorem lastC_stays {fl : Int} : ∀ {l : List Ver}, (∀ x ∈ l, x.e = 0 ∨ x.b < x.e) → fl < lastC l → lastC (staysL fl l) = lastC l := fun {l} h hl => by
  cases hg : l.getLast? with
  | none =>
    have : l = [] := by simpa using hg
    subst this; rfl
  | some x =>
    have hne : l ≠ [] := by intro hn; rw [hn] at hg; simp at hg
    have e : l = l.dropLast ++ [x] := by
      have := List.dropLast_concat_getLast hne
      rw [List.getLast?_eq_some_getLast hne, Option.some.injEq] at hg
      rw [hg] at this
      exact this.symm
    have hx : x ∈ l := List.mem_of_getLast? hg
    have hlc : lastC l = mx x.b x.e := by unfold lastC; rw [hg]
    have hs : (!goesP fl x) = true := by
      unfold goesP
      rw [hlc] at hl
      rcases h x hx with h | h
      · simp [h]
      · unfold mx at hl
        rw [if_pos h] at hl
        have : ¬ x.e ≤ fl := by omega
        simp [this]
    unfold staysL
    rw [hlc]
    conv => lhs; rw [e]
    rw [List.filter_append, List.filter_cons, if_pos hs, List.filter_nil]
    unfold lastC
    rw [List.getLast?_concat]

theorem chk_ends {d : Int} : ∀ {L : Int} {l : List Ver}, chk d L l = true → ∀ x ∈ l, x.e = 0 ∨ x.b < x.e
  | _, [], _, x, hx => by simp at hx
  | _, y :: l, h, x, hx => by
    rw [chk, okVer_one] at h
    simp only [okOne, Bool.and_eq_true, decide_eq_true_eq, Bool.or_eq_true, beq_iff_eq] at h
    rcases List.mem_cons.1 hx with rfl | hx
    · exact h.1.1.1.1.2
    · exact chk_ends h.2 x hx

theorem okC_none : okC none = true := by decide
theorem okC_ok {o : Option (List Ver)} (h : okC o = true) : (lst o).length ≤ 96 ∧ chk (dimOf (lst o)) 0 (lst o) = true := by
  unfold okC at h
  rw [Bool.and_eq_true, decide_eq_true_eq] at h
  exact h

theorem runE_ne {k ts : Int} {near : Bool} {v : Option (List Int)} {o : Option (List Ver)} (h : runE k ts near v o ≠ 0) : lst (runC k ts near v o) = [] ∧ lst (runG k ts near o) = [] := by
  unfold runE at h
  unfold runC runG
  by_cases h3 : k5 k = 3
  · simp only [h3, if_true, show ((3 : Int) = 4) = False from by decide, if_false] at h ⊢
    refine ⟨?_, rfl⟩
    unfold delE at h
    unfold delO
    rw [if_neg]; rfl
    rintro ⟨a, b, c, d⟩
    rw [a, if_neg (by simp), if_neg (by omega), if_pos d] at h
    exact h rfl
  · by_cases h4 : k5 k = 4
    · simp only [h4, if_true, show ((4 : Int) = 3) = False from by decide, if_false] at h ⊢
      split at h
      · exact absurd rfl h
      · rename_i hc
        rw [if_neg hc, if_neg hc]
        exact ⟨rfl, rfl⟩
    · simp only [h3, h4, if_false] at h ⊢
      refine ⟨?_, rfl⟩
      unfold putE at h
      unfold putC
      rw [if_neg]; rfl
      rintro ⟨a, b, c, d⟩
      rw [a, if_neg (by simp), if_neg (by omega), d] at h
      exact h rfl

/-- What an op that is done leaves. -/
theorem runE_del {k ts : Int} {near : Bool} {v : Option (List Int)} {o : Option (List Ver)} (h : runE k ts near v o = 0) (h3 : k5 k = 3) :
    okC o = true ∧ lastC (lst o) < tsOf k ts near o ∧ tsOf k ts near o ≤ 1099511627776 ∧ openL (lst o) = true ∧ lst (runC k ts near v o) = closeL (tsOf k ts near o) (lst o) ∧ runG k ts near o = none := by
  unfold runE at h
  unfold runC runG
  simp only [h3, if_true, show ((3 : Int) = 4) = False from by decide, if_false] at h ⊢
  unfold delE at h
  unfold delO
  cases hc : okC o
  · rw [hc] at h; simp at h
  · rw [hc, if_neg (by simp)] at h
    split at h
    · cases h
    · split at h
      · rename_i h1 h2
        have h5 : lastC (lst o) < tsOf k ts near o ∧ tsOf k ts near o ≤ 1099511627776 := by omega
        refine ⟨rfl, h5.1, h5.2, h2, ?_, trivial⟩
        rw [if_pos ⟨rfl, h5.1, h5.2, h2⟩]
        cases o with
        | none => cases h2
        | some L => rfl
      · cases h

theorem runE_put {k ts : Int} {near : Bool} {v : Option (List Int)} {o : Option (List Ver)} (h : runE k ts near v o = 0) (h3 : k5 k ≠ 3) (h4 : k5 k ≠ 4) :
    okC o = true ∧ lastC (lst o) < tsOf k ts near o ∧ tsOf k ts near o ≤ 1099511627776 ∧ putN o (vec5 v) = 0 ∧
      lst (runC k ts near v o) = closeL (tsOf k ts near o) (lst o) ++ [⟨tsOf k ts near o, 0, some (vec5 v)⟩] ∧ runG k ts near o = none := by
  unfold runE at h
  unfold runC runG
  simp only [h3, h4, if_false] at h ⊢
  unfold putE at h
  unfold putC
  cases hc : okC o
  · rw [hc] at h; simp at h
  · rw [hc, if_neg (by simp)] at h
    split at h
    · cases h
    · rename_i h1
      have h5 : lastC (lst o) < tsOf k ts near o ∧ tsOf k ts near o ≤ 1099511627776 := by omega
      refine ⟨rfl, h5.1, h5.2, h, ?_, trivial⟩
      rw [if_pos ⟨rfl, h5.1, h5.2, h⟩]
      cases o with
      | none => rfl
      | some L => rfl

theorem ok_close {o : Option (List Ver)} {ts : Int} {n : Option (List Ver)} (h : okC o = true) (hl : lastC (lst o) < ts) (ht : ts ≤ 1099511627776) (hn : lst n = closeL ts (lst o)) : okC n = true := by
  have h1 := okC_ok h
  unfold okC
  rw [hn, close_len, dim_close, chk_close ht h1.2 hl]
  simp [h1.1]

theorem lastC_closed {ts : Int} {l : List Ver} (h0 : 0 < ts) (hl : lastC l < ts) : lastC (closeL ts l) ≤ ts := by
  unfold lastC at hl
  unfold closeL
  split
  · rename_i x hx
    rw [hx] at hl
    have := mx_le hl
    split
    · unfold lastC
      rw [List.getLast?_concat]
      show mx x.b ts ≤ ts
      unfold mx; split <;> omega
    · unfold lastC
      rw [hx]
      exact Int.le_of_lt hl
  · rename_i hx
    unfold lastC
    rw [hx]
    exact Int.le_of_lt h0

theorem chk_snoc' {d ts : Int} {w : Ver} (hb : w.b = ts) (hw : okOne d w = true) : ∀ {L : Int} {l : List Ver}, chk d L l = true → L ≤ ts → (∀ x ∈ l, x.e ≠ 0 ∧ x.e ≤ ts) → chk d L (l ++ [w]) = true
  | L, [], _, hL, _ => by
    rw [List.nil_append, chk, okVer_one, hw]
    simp [chk, hb, hL]
  | L, [y], h, hL, he => by
    have hy := he y (by simp)
    rw [chk, okVer_one] at h
    simp only [Bool.and_eq_true, decide_eq_true_eq] at h
    rw [List.singleton_append, chk, okVer_one, chk, okVer_one, hw]
    simp [chk, hb, hy.1, hy.2, h.1.1.1, h.1.1.2]
  | L, y :: z :: l, h, hL, he => by
    rw [chk, Bool.and_eq_true] at h
    rw [List.cons_append, chk, Bool.and_eq_true]
    exact ⟨h.1, chk_snoc' hb hw h.2 (he y (by simp)).2 fun x hx => he x (List.mem_cons_of_mem _ hx)⟩

theorem ok_put {o : Option (List Ver)} {ts : Int} {l : List Int} {n : Option (List Ver)} (h : okC o = true) (hl : lastC (lst o) < ts) (ht : ts ≤ 1099511627776) (hp : putN o l = 0)
    (hn : lst n = closeL ts (lst o) ++ [⟨ts, 0, some l⟩]) : okC n = true := by
  have h1 := okC_ok h
  have h0 : 0 < ts := by have := lastC_pos h1.2; omega
  unfold putN at hp
  split at hp
  · rename_i hv
    split at hp
    · rename_i hd
      split at hp
      · cases hp
      · rename_i h96
        have hc := chk_close ht h1.2 hl
        have he := close_ends h1.2 hl
        have hw : okOne (dimP o l) ⟨ts, 0, some l⟩ = true := by
          unfold okOne
          simp [h0, ht, hv, hd, lst]
        have hdim : dimOf (closeL ts (lst o) ++ [⟨ts, 0, some l⟩]) = dimP o l := by
          unfold dimP
          cases hL : lst o with
          | nil => rfl
          | cons y l' =>
            have := dim_close ts (y :: l')
            cases hC : closeL ts (y :: l') with
            | nil => have := close_len ts (y :: l'); rw [hC] at this; simp at this
            | cons z zs => rw [hC] at this; exact this
        have hc' : chk (dimP o l) 0 (closeL ts (lst o)) = true := by
          unfold dimP
          cases hL : lst o with
          | nil => rfl
          | cons y l' => rw [hL] at hc; exact hc
        unfold okC
        rw [hn, hdim, chk_snoc' (ts := ts) rfl hw hc' (Int.le_of_lt h0) fun x hx => ⟨(he x hx).1.resolve_right (by omega), (he x hx).2⟩, List.length_append, close_len]
        simp
        omega
    · exact absurd hp (by decide)
  · exact absurd hp (by decide)

end Go.Q.S4
end

section
/- What was visible at times that are not touched still is; what was put is visible from then on. -/
set_option linter.unusedSimpArgs false
set_option linter.unusedVariables false
namespace Go.Q.S4
open Go.Q

/-- Chains that can be gone on with. -/
def Small (o : Option (List Ver)) : Prop := (lst o).length ≤ 97 ∧ AllS (lst o) ∧ ∀ x ∈ lst o, (lst x.v).length ≤ 5

theorem Small.sm {o : Option (List Ver)} (h : Small o) : Sm o := ⟨by have := h.1; omega, fun x hx => by have := h.2.2 x hx; omega⟩
theorem Small.fit {o : Option (List Ver)} (h : Small o) : FitC o := ⟨by have := h.1; unfold LIM; omega, fun x hx => by have := h.2.2 x hx; unfold Fit LIM; omega⟩
theorem Small.fit' {o : Option (List Ver)} (h : Small o) : ((lst o).length + 1) * 40 ≤ LIM := by have := h.1; unfold LIM; omega
theorem small_few (o : Option (List Ver)) : Small (fewO o) := by
  refine ⟨few_len o, fun x hx => ?_, fun x hx => ?_⟩
  all_goals
    rw [fewO, lst_opt] at hx
    obtain ⟨y, -, rfl⟩ := List.mem_map.1 hx
  · rfl
  · simp only [fewV, lst_some, List.length_take]; omega
theorem close_mem {ts : Int} {L : List Ver} {x : Ver} (h : x ∈ closeL ts L) : ∃ y ∈ L, x.v = y.v := by
  unfold closeL at h
  split at h
  · rename_i y hy
    split at h
    · rcases List.mem_append.1 h with h | h
      · exact ⟨x, (List.dropLast_sublist L).subset h, rfl⟩
      · rw [List.mem_singleton.1 h]; exact ⟨y, List.mem_of_getLast? hy, rfl⟩
    · exact ⟨x, h, rfl⟩
  · exact ⟨x, h, rfl⟩

theorem vec5_le (v : Option (List Int)) : (vec5 v).length ≤ 5 := by unfold vec5; simp; omega

theorem small_close {ts : Int} {L : List Ver} (h : Small (some L)) : Small (some (closeL ts L)) := by
  refine ⟨by rw [lst_some, close_len]; exact h.1, close_all h.2.1, fun x hx => ?_⟩
  obtain ⟨y, hy, e⟩ := close_mem hx
  rw [e]; exact h.2.2 y hy
theorem small_filter {p : Ver → Bool} {L : List Ver} (h : Small (some L)) : Small (opt (L.filter p)) := by
  refine ⟨?_, fun x hx => ?_, fun x hx => ?_⟩
  · rw [lst_opt]; exact Nat.le_trans (List.length_filter_le _ _) h.1
  · rw [lst_opt] at hx; exact h.2.1 x (List.mem_filter.1 hx).1
  · rw [lst_opt] at hx; exact h.2.2 x (List.mem_filter.1 hx).1


theorem run_small (k ts : Int) (near : Bool) (v : Option (List Int)) {o : Option (List Ver)} (h : Small o) : Sm (runC k ts near v o) ∧ Sm (runG k ts near o) := by
  have h0 : Sm (none : Option (List Ver)) := ⟨by simp [lst], fun x hx => by simp [lst] at hx⟩
  have hc : ∀ t, (closeL t (lst o)).length ≤ 97 ∧ ∀ x ∈ closeL t (lst o), (lst x.v).length ≤ 5 := fun t => ⟨by rw [close_len]; exact h.1, fun x hx => by
    obtain ⟨y, hy, e⟩ := close_mem hx; rw [e]; exact h.2.2 y hy⟩
  have hf : ∀ p : Ver → Bool, Sm (opt ((lst o).filter p)) := fun p => by
    refine ⟨?_, fun x hx => ?_⟩
    · rw [lst_opt]; exact Nat.lt_of_le_of_lt (List.length_filter_le _ _) h.sm.1
    · rw [lst_opt] at hx; exact h.sm.2 x (List.mem_filter.1 hx).1
  have hm : lst (o.map (closeL (tsOf k ts near o))) = closeL (tsOf k ts near o) (lst o) := by cases o <;> rfl
  constructor
  · unfold runC
    split
    · unfold delO
      split
      · exact ⟨by rw [hm]; have := (hc (tsOf k ts near o)).1; omega, fun x hx => by rw [hm] at hx; have := (hc _).2 x hx; omega⟩
      · exact h0
    · split
      · split
        · exact hf _
        · exact h0
      · unfold putC
        split
        · refine ⟨?_, fun x hx => ?_⟩
          · rw [lst_some, List.length_append, hm]; have := (hc (tsOf k ts near o)).1; simp; omega
          · rw [lst_some, hm] at hx
            rcases List.mem_append.1 hx with hx | hx
            · have := (hc _).2 x hx; omega
            · rw [List.mem_singleton.1 hx]; have := vec5_le v; simp only [lst_some]; omega
        · exact h0
  · unfold runG
    split
    · split
      · exact hf _
      · exact h0
    · exact h0

theorem ints_refl (l : List Int) : (l == l) = true := by simp

theorem r20 (o : Option (List Ver)) (t : Int) (hs : Sm o) : res T 20 [slV 3 verV o, .int .u64 t] = some (slV 1 i32V (shV o t)) := by
  refine run_res (run_pure (fn := g20) rfl rfl (by decide) ?_)
  simp only [g20, b20]
  have h13 := f13 o t hs
  have hf := find_idx (fun x => vis x t) (lst o)
  have hp : idxF (fun x => vis x t) (lst o) = posV o t := rfl
  rw [hp] at hf
  cases hb : atB o t
  · have e : shV o t = none := by
      unfold shV shL
      unfold atB at hb
      cases hc : okC o
      · rfl
      · rw [hc, Bool.and_true, decide_eq_false_iff_not] at hb
        rw [hf, if_neg hb]; rfl
    simp +contextual -implicitDefEqProofs (maxSteps := 2000000) only [↓wP, wQ, wQ1, wQ2, wQ3, wR, boxE, partsOf, ↓reduceIte, Nat.reduceEqDiff, Nat.reduceAdd, Nat.reduceSub, Nat.reduceLeDiff, Nat.reduceLT, Nat.reduceMul, reduceCtorEq, Int.reduceBNe, Int.reduceBEq, Int.reduceLT, Int.reduceLE, Int.reduceGT, h13, hb, e]
    rfl
  · unfold atB at hb
    have hb' := hb
    rw [Bool.and_eq_true, decide_eq_true_eq] at hb'
    have hlt := pos_lt o t
    have hi : (posV o t).toNat < (lst o).length := by omega
    have hx : (lst o)[(posV o t).toNat]? = some (lst o)[(posV o t).toNat] := List.getElem?_eq_getElem hi
    have e : shV o t = ((lst o)[(posV o t).toNat]'hi).v := by
      unfold shV shL
      rw [hb'.2, if_pos rfl, hf, if_pos hb'.1, hx]; rfl
    have hI : atI o t = (((posV o t).toNat : Nat) : Int) := by unfold atI atB; rw [hb, if_pos rfl]; omega
    have hB : atB o t = true := hb
    generalize (posV o t).toNat = m at *
    simp +contextual -implicitDefEqProofs (maxSteps := 2000000) only [↓wP, wQ, wQ1, wQ2, wQ3, wR, boxE, partsOf, ↓reduceIte, Nat.reduceEqDiff, Nat.reduceAdd, Nat.reduceSub, Nat.reduceLeDiff, Nat.reduceLT, Nat.reduceMul, reduceCtorEq, Int.reduceBNe, Int.reduceBEq, Int.reduceLT, Int.reduceLE, Int.reduceGT, h13, hB, hI, hx, verV, e]

theorem f20 (o : Option (List Ver)) (t : Int) (hs : Sm o) (fs : Bool) (σ : Sto) (n lk : Nat) : callE T fs 20 [slV 3 verV o, .int .u64 t] σ n lk = some (slV 1 i32V (shV o t), σ, n) :=
  callE_tr (by decide) (r20 o t hs) (by simp [Tr, Tr_slV]) (by simp [Nw, Nw_slV]) fs σ n lk

/-- All that the statement asks of an op that is done. -/
theorem stays_law {k ts : Int} {near : Bool} {v : Option (List Int)} {c : Option (List Ver)} (h : runE k ts near v c = 0) (ha : AllS (lst c)) :
    okC c = true ∧ okC (runC k ts near v c) = true ∧ okC (runG k ts near c) = true ∧
      (∀ t, (k5 k = 4 ∧ tsOf k ts near c ≤ t) ∨ (k5 k ≠ 4 ∧ t < tsOf k ts near c) → (lst (shV c t) == lst (shV (runC k ts near v c) t)) = true) ∧
      (k5 k = 4 → (∀ x ∈ lst (runC k ts near v c), goesP (tsOf k ts near c) x = false) ∧ (∀ x ∈ lst (runG k ts near c), goesP (tsOf k ts near c) x = true) ∧
        (tsOf k ts near c < lastC (lst c) → lastC (lst (runC k ts near v c)) = lastC (lst c)) ∧ (lst (runC k ts near v c)).length + (lst (runG k ts near c)).length = (lst c).length) ∧
      (k5 k = 3 → shV (runC k ts near v c) (tsOf k ts near c) = none ∧ lastC (lst (runC k ts near v c)) = tsOf k ts near c) ∧
      (k5 k ≠ 3 → k5 k ≠ 4 → shV (runC k ts near v c) (tsOf k ts near c) = some (vec5 v) ∧ shV (runC k ts near v c) 1099511627776 = some (vec5 v) ∧ lastC (lst (runC k ts near v c)) = tsOf k ts near c) := by
  by_cases h3 : k5 k = 3
  · obtain ⟨p1, p2, p3, p4, p5, p6⟩ := runE_del h h3
    generalize hN : runC k ts near v c = N at *
    have h4 : k5 k ≠ 4 := by omega
    generalize tsOf k ts near c = tt at *
    have hok := ok_close p1 p2 p3 p5
    have h0 : 0 < tt := by have := lastC_pos (okC_ok p1).2; omega
    refine ⟨p1, hok, by rw [p6]; exact okC_none, fun t ht => ?_, fun h => absurd h h4, fun _ => ⟨?_, by rw [p5]; exact lastC_close p4 p2⟩, fun h => absurd h3 h⟩
    · unfold shV
      rw [p1, hok, if_pos rfl, if_pos rfl, p5, sh_close (by omega) h0]
      exact ints_refl _
    · unfold shV
      rw [hok, if_pos rfl, p5]
      exact sh_none fun x hx => ⟨(close_ends (okC_ok p1).2 p2 x hx).1.resolve_right (by omega), (close_ends (okC_ok p1).2 p2 x hx).2⟩
  · by_cases h4 : k5 k = 4
    · have hc : okC c = true := by
        unfold runE at h
        rw [if_neg h3, if_pos h4] at h
        split at h
        · rename_i hc; exact hc
        · exact absurd h (by decide)
      have eN : runC k ts near v c = opt (staysL (tsOf k ts near c) (lst c)) := by unfold runC; rw [if_neg h3, if_pos h4, if_pos hc]
      have eG : runG k ts near c = opt (goneL (tsOf k ts near c) (lst c)) := by unfold runG; rw [if_pos h4, if_pos hc]
      rw [eN, eG, lst_opt, lst_opt]
      generalize tsOf k ts near c = tt at *
      have hok : okC (opt (staysL tt (lst c))) = true := okC_filter _ hc
      refine ⟨hc, hok, okC_filter _ hc, fun t ht => ?_, fun _ => ⟨fun x hx => ?_, fun x hx => (List.mem_filter.1 hx).2, fun hl => lastC_stays (chk_ends (okC_ok hc).2) hl, len_part _ _⟩, fun h => absurd h h3, fun _ h => absurd h4 h⟩
      · unfold shV
        rw [hc, hok, if_pos rfl, if_pos rfl, lst_opt, sh_filter (by omega)]
        exact ints_refl _
      · have := (List.mem_filter.1 hx).2
        simpa using this
    · obtain ⟨p1, p2, p3, p4, p5, p6⟩ := runE_put h h3 h4
      generalize hN : runC k ts near v c = N at *
      generalize tsOf k ts near c = tt at *
      have hok := ok_put p1 p2 p3 p4 p5
      have h0 : 0 < tt := by have := lastC_pos (okC_ok p1).2; omega
      have hce := close_ends (okC_ok p1).2 p2
      have hce' : ∀ x ∈ closeL tt (lst c), x.e ≠ 0 ∧ x.e ≤ tt := fun x hx => ⟨(hce x hx).1.resolve_right (by omega), (hce x hx).2⟩
      refine ⟨p1, hok, by rw [p6]; exact okC_none, fun t ht => ?_, fun h => absurd h h4, fun h => absurd h h3, fun _ _ => ⟨?_, ?_, ?_⟩⟩
      · unfold shV
        rw [p1, hok, if_pos rfl, if_pos rfl, p5, sh_snoc (by omega), sh_close (by omega) h0]
        exact ints_refl _
      · unfold shV
        rw [hok, if_pos rfl, p5]
        exact sh_new (Int.le_refl _) hce' _
      · unfold shV
        rw [hok, if_pos rfl, p5]
        exact sh_new p3 hce' _
      · rw [p5]
        unfold lastC
        rw [List.getLast?_concat]
        show mx tt 0 = tt
        unfold mx; rw [if_neg (by omega)]

theorem sh_len {o : Option (List Ver)} (h : Sm o) (t : Int) : (lst (shV o t)).length < 9223372036854775808 := by
  unfold shV shL
  split
  · cases hf : List.find? (fun x => vis x t) (lst o) with
    | none => decide
    | some x => exact h.2 x (List.mem_of_find?_eq_some hf)
  · decide

theorem r6 (o : Option (List Ver)) (k ts : Int) (near : Bool) (v : Option (List Int)) (hs : Sm o) (hv : (lst v).length < 9223372036854775808) : res T 6 [slV 3 verV o, .agg [.int .i64 k, .int .u64 ts, .bool near, slV 1 i32V v]] = some (.bool true) := by
  refine run_res (run_pure (fn := g6) rfl rfl (by decide) ?_)
  simp only [g6, b6]
  have h10 := f10 o hs
  have hm := small_few o
  generalize fewO o = c at h10 hm
  have h15 := callE_tr (by decide) (r15 k ts near v c hv hm.sm hm.fit hm.fit' hm.2.1) (by simp [Tr, Tr_slV]) (by simp [Nw, Nw_slV])
  have h18 : ∀ (fs : Bool) (σ : Sto) (n lk : Nat), callE T fs 18 [.agg [.int .i64 k, .int .u64 ts, .bool near, slV 1 i32V v], slV 3 verV c] σ n lk = some (.int .u64 (tsOf k ts near c), σ, n) := f18 k ts near v c hm.sm
  have h22 := f22 k ts near v hv
  obtain ⟨smN, smG⟩ := run_small k ts near v hm
  have h11a := f11 _ smN
  have h11b := f11 _ smG
  have h12 := f12 c hm.1
  have h21a := f21 c hm.sm
  have h21b := f21 _ smN
  have h20a := fun t => f20 c t hm.sm
  have h20b := fun t => f20 _ t smN
  have h19 := fun t => f19 (shV c t) (shV (runC k ts near v c) t) (sh_len hm.sm t)
  have h19v := fun t => f19 (shV (runC k ts near v c) t) (some (vec5 v)) (sh_len smN t)
  have m5 := bin_rem .u64 (IntKind.u64.wrap k) 5 (by decide)
  by_cases h0 : runE k ts near v c = 0
  · have hne : (runE k ts near v c != 0) = false := by simp [h0]
    obtain ⟨okc, okN, okG, hC, hP, hD, hU⟩ := stays_law h0 hm.2.1
    have sN := smN.1
    have sG := smG.1
    generalize runC k ts near v c = N at *
    generalize runG k ts near c = G at *
    generalize tsOf k ts near c = tt at *
    have hlen := timL_len (lst c)
    have hfl := hm.1
    have hlim : (((timL (lst c)).map u64V).length + 2) * 8 ≤ LIM := by unfold LIM; simp; omega
    simp +contextual -implicitDefEqProofs (maxSteps := 2000000) only [↓wP, wQ, wQ1, wQ2, wQ3, wR, boxE, partsOf, ↓reduceIte, Nat.reduceEqDiff, Nat.reduceAdd, Nat.reduceSub, Nat.reduceLeDiff, Nat.reduceLT, Nat.reduceMul, reduceCtorEq, Int.reduceBNe, Int.reduceBEq, Int.reduceLT, Int.reduceLE, Int.reduceGT, f9, h10, h15, hne, h18, m5, h11a, h11b, okN, okG, h12, hlim]
    generalize hA : (timL (lst c)).map u64V = A at hlim ⊢
    have hR : ∀ j, j < A.length + 2 → ∃ t, (A ++ [V.int .u64 tt, V.int .u64 (IntKind.u64.wrap (tt + 1))])[j]? = some (V.int .u64 t) := by
      intro j hj
      have : A ++ [V.int .u64 tt, V.int .u64 (IntKind.u64.wrap (tt + 1))] = (timL (lst c) ++ [tt, IntKind.u64.wrap (tt + 1)]).map u64V := by rw [List.map_append, hA]; rfl
      have hj' : j < ((timL (lst c) ++ [tt, IntKind.u64.wrap (tt + 1)]).map u64V).length := by rw [← this, List.length_append]; exact hj
      exact ⟨_, by rw [this, List.getElem?_eq_getElem hj', List.getElem_map]; rfl⟩
    generalize hpr : ((IntKind.u64.wrap k).tmod 5 == 4) = pr
    refine WC_for (A.length + 2) 0 (fun (j : Nat) env σ n => env 5 = slV 3 verV c ∧ env 6 = slV 3 verV N ∧ env 7 = slV 3 verV G ∧ env 9 = .int .u64 tt ∧ env 10 = .bool pr ∧ env 3 = .ptr 0 4 0 0 ∧ σ 0 = some (.row 4 [.agg [.int .i64 k, .int .u64 ts, .bool near, slV 1 i32V v]]) ∧
        ∃ i, env 59 = .ref i 0 (A.length + 2) 1 ∧ σ i = some (.row 1 (A ++ [V.int .u64 tt, V.int .u64 (IntKind.u64.wrap (tt + 1))])) ∧ i < n)
      (by unfold LIM at hlim; omega) (by decide) (by decide) (fun _ _ => rfl) (fun _ _ _ => rfl) ?_ ?_ _ _ _ rfl rfl ?_
    · intro j env σ n hj h1 h2 ⟨h3, h4, h5, h6, h7, h8, h80, i, h9, hi1, hi2⟩
      simp only [vl_tmp] at h2
      obtain ⟨t, hx⟩ := hR j hj
      have h19t := h19 t
      have h20at := h20a t
      have h20bt := h20b t
      cases pr
      · have h4' : k5 k ≠ 4 := by simpa [k5] using hpr
        by_cases ht : t < tt
        · have hb := hC t (.inr ⟨h4', ht⟩)
          simp +contextual -implicitDefEqProofs (maxSteps := 2000000) only [↓wP, wQ, wQ1, wQ2, wQ3, wR, boxE, partsOf, ↓reduceIte, Nat.reduceEqDiff, Nat.reduceAdd, Nat.reduceSub, Nat.reduceLeDiff, Nat.reduceLT, Nat.reduceMul, reduceCtorEq, Int.reduceBNe, Int.reduceBEq, Int.reduceLT, Int.reduceLE, Int.reduceGT, h1, h2, h3, h4, h5, h6, h7, h8, h80, h9, hi1, hj, hx, ht, h20at, h20bt, h19t, hb]
          exact ⟨i, rfl, hi1, by omega⟩
        · simp +contextual -implicitDefEqProofs (maxSteps := 2000000) only [↓wP, wQ, wQ1, wQ2, wQ3, wR, boxE, partsOf, ↓reduceIte, Nat.reduceEqDiff, Nat.reduceAdd, Nat.reduceSub, Nat.reduceLeDiff, Nat.reduceLT, Nat.reduceMul, reduceCtorEq, Int.reduceBNe, Int.reduceBEq, Int.reduceLT, Int.reduceLE, Int.reduceGT, h1, h2, h3, h4, h5, h6, h7, h8, h80, h9, hi1, hj, hx, ht]
          exact ⟨i, rfl, hi1, by omega⟩
      · have h4' : k5 k = 4 := by simpa [k5] using hpr
        by_cases ht : tt ≤ t
        · have hb := hC t (.inl ⟨h4', ht⟩)
          simp +contextual -implicitDefEqProofs (maxSteps := 2000000) only [↓wP, wQ, wQ1, wQ2, wQ3, wR, boxE, partsOf, ↓reduceIte, Nat.reduceEqDiff, Nat.reduceAdd, Nat.reduceSub, Nat.reduceLeDiff, Nat.reduceLT, Nat.reduceMul, reduceCtorEq, Int.reduceBNe, Int.reduceBEq, Int.reduceLT, Int.reduceLE, Int.reduceGT, h1, h2, h3, h4, h5, h6, h7, h8, h80, h9, hi1, hj, hx, ht, h20at, h20bt, h19t, hb]
          exact ⟨i, rfl, hi1, by omega⟩
        · simp +contextual -implicitDefEqProofs (maxSteps := 2000000) only [↓wP, wQ, wQ1, wQ2, wQ3, wR, boxE, partsOf, ↓reduceIte, Nat.reduceEqDiff, Nat.reduceAdd, Nat.reduceSub, Nat.reduceLeDiff, Nat.reduceLT, Nat.reduceMul, reduceCtorEq, Int.reduceBNe, Int.reduceBEq, Int.reduceLT, Int.reduceLE, Int.reduceGT, h1, h2, h3, h4, h5, h6, h7, h8, h80, h9, hi1, hj, hx, ht]
          exact ⟨i, rfl, hi1, by omega⟩
    · intro env σ n ⟨h3, h4, h5, h6, h7, h8, h80, i, h9, hi1, hi2⟩ h1 h2
      cases pr
      · have h4' : k5 k ≠ 4 := by simpa [k5] using hpr
        by_cases h3' : k5 k = 3
        · obtain ⟨d1, d2⟩ := hD h3'
          have hd3 : ((IntKind.u64.wrap k).tmod 5 == 3) = true := by simpa [k5] using h3'
          have h20t := h20b tt
          rw [d1] at h20t
          have h21t := h21b
          rw [okN, d2, if_pos rfl] at h21t
          simp +contextual -implicitDefEqProofs (maxSteps := 2000000) only [↓wP, wQ, wQ1, wQ2, wQ3, wR, boxE, partsOf, ↓reduceIte, Nat.reduceEqDiff, Nat.reduceAdd, Nat.reduceSub, Nat.reduceLeDiff, Nat.reduceLT, Nat.reduceMul, reduceCtorEq, Int.reduceBNe, Int.reduceBEq, Int.reduceLT, Int.reduceLE, Int.reduceGT, h3, h4, h5, h6, h7, h8, h80, m5, hd3, h20t, h21t]
          rfl
        · obtain ⟨d1, d2, d3⟩ := hU h3' h4'
          have hd3 : ((IntKind.u64.wrap k).tmod 5 == 3) = false := by simpa [k5] using h3'
          have h20t := h20b tt
          have h20m := h20b 1099511627776
          rw [d1] at h20t
          have h19t := r19 (some (vec5 v)) (some (vec5 v)) (by have := vec5_le v; simp only [lst_some]; omega)
          have hm19 : T.mode 19 ≠ .raw := by decide
          have hmm := mapM_enc i32V (fun _ => rfl)
          have hle : ((vec5 v).length ≤ ((vec5 v).map i32V).length) = True := by simp
          have htk : ((vec5 v).map i32V).take (vec5 v).length = (vec5 v).map i32V := by rw [List.take_of_length_le]; simp
          rw [d2] at h20m
          rw [ints_refl] at h19t
          rw [slV_some] at h19t h20t h20m
          have h21t := h21b
          rw [okN, d3, if_pos rfl] at h21t
          have h0n : (0 = n) = False := by simp; omega
          have h0n1 : (0 = n + 1) = False := by simp
          simp +contextual -implicitDefEqProofs (maxSteps := 2000000) only [↓wP, wQ, wQ1, wQ2, wQ3, wR, boxE, partsOf, ↓reduceIte, Nat.reduceEqDiff, Nat.reduceAdd, Nat.reduceSub, Nat.reduceLeDiff, Nat.reduceLT, Nat.reduceMul, reduceCtorEq, Int.reduceBNe, Int.reduceBEq, Int.reduceLT, Int.reduceLE, Int.reduceGT, h3, h4, h5, h6, h7, h8, h80, m5, hd3, h0n, h0n1, h20t, h20m, h21t, h22, callE_eq hm19, frz_rf, rch_rf, hmm, hle, htk, h19t, Tr_slV]
      · have h4' : k5 k = 4 := by simpa [k5] using hpr
        obtain ⟨d1, d2, d3, d4⟩ := hP h4'
        simp +contextual -implicitDefEqProofs (maxSteps := 2000000) only [↓wP, wQ, wQ1, wQ2, wQ3, wR, boxE, partsOf, ↓reduceIte, Nat.reduceEqDiff, Nat.reduceAdd, Nat.reduceSub, Nat.reduceLeDiff, Nat.reduceLT, Nat.reduceMul, reduceCtorEq, Int.reduceBNe, Int.reduceBEq, Int.reduceLT, Int.reduceLE, Int.reduceGT, h3, h4, h5, h6, h7, h8, h80]
        refine WC_for (lst N).length 0 (fun (j : Nat) env σ n => env 5 = slV 3 verV c ∧ env 6 = slV 3 verV N ∧ env 7 = slV 3 verV G ∧ env 9 = .int .u64 tt ∧ env 93 = slV 3 verV N) (by omega) (by decide) (by decide) (fun _ _ => rfl) (fun _ _ _ => rfl) ?_ ?_ _ _ _ rfl rfl ?_
        · clear h1 h2 h3 h4 h5 h6 h7 h8 h80 h9 hi1 hi2
          intro j env σ n hj h1 h2 ⟨h3, h4, h5, h6, h7⟩
          simp only [vl_tmp] at h2
          have hx : (lst N)[j]? = some (lst N)[j] := List.getElem?_eq_getElem hj
          have hg := d1 _ (List.getElem_mem hj)
          unfold goesP at hg
          simp +contextual -implicitDefEqProofs (maxSteps := 2000000) only [↓wP, wQ, wQ1, wQ2, wQ3, wR, boxE, partsOf, ↓reduceIte, Nat.reduceEqDiff, Nat.reduceAdd, Nat.reduceSub, Nat.reduceLeDiff, Nat.reduceLT, Nat.reduceMul, reduceCtorEq, Int.reduceBNe, Int.reduceBEq, Int.reduceLT, Int.reduceLE, Int.reduceGT, h1, h2, h3, h4, h5, h6, h7, hj, hx, verV, hg]
        · clear h1 h2 h3 h4 h5 h6 h7 h8 h80 h9 hi1 hi2
          intro env σ n ⟨h3, h4, h5, h6, h7⟩ h1 h2
          simp +contextual -implicitDefEqProofs (maxSteps := 2000000) only [↓wP, wQ, wQ1, wQ2, wQ3, wR, boxE, partsOf, ↓reduceIte, Nat.reduceEqDiff, Nat.reduceAdd, Nat.reduceSub, Nat.reduceLeDiff, Nat.reduceLT, Nat.reduceMul, reduceCtorEq, Int.reduceBNe, Int.reduceBEq, Int.reduceLT, Int.reduceLE, Int.reduceGT, h1, h2, h3, h4, h5, h6, h7]
          refine WC_for (lst G).length 0 (fun (j : Nat) env σ n => env 5 = slV 3 verV c ∧ env 6 = slV 3 verV N ∧ env 7 = slV 3 verV G ∧ env 9 = .int .u64 tt ∧ env 109 = slV 3 verV G) (by omega) (by decide) (by decide) (fun _ _ => rfl) (fun _ _ _ => rfl) ?_ ?_ _ _ _ rfl rfl ?_
          · clear h1 h2 h3 h4 h5 h6 h7
            intro j env σ n hj h1 h2 ⟨h3, h4, h5, h6, h7⟩
            simp only [vl_tmp] at h2
            have hx : (lst G)[j]? = some (lst G)[j] := List.getElem?_eq_getElem hj
            have hg := d2 _ (List.getElem_mem hj)
            unfold goesP at hg
            rw [Bool.and_eq_true, bne_iff_ne, decide_eq_true_eq] at hg
            have hg' : ((lst G)[j].e == 0 || decide (tt < (lst G)[j].e)) = false := by simp [hg.1, hg.2]
            simp +contextual -implicitDefEqProofs (maxSteps := 2000000) only [↓wP, wQ, wQ1, wQ2, wQ3, wR, boxE, partsOf, ↓reduceIte, Nat.reduceEqDiff, Nat.reduceAdd, Nat.reduceSub, Nat.reduceLeDiff, Nat.reduceLT, Nat.reduceMul, reduceCtorEq, Int.reduceBNe, Int.reduceBEq, Int.reduceLT, Int.reduceLE, Int.reduceGT, h1, h2, h3, h4, h5, h6, h7, hj, hx, verV, hg']
          · clear h1 h2 h3 h4 h5 h6 h7
            intro env σ n ⟨h3, h4, h5, h6, h7⟩ h1 h2
            rw [okc, if_pos rfl] at h21a
            rw [okN, if_pos rfl] at h21b
            have hsum : IntKind.i64.wrap (((lst N).length : Int) + ((lst G).length : Int)) = ((lst c).length : Int) := by rw [wrap_i64] <;> omega
            by_cases hl : tt < lastC (lst c)
            · have d3' := d3 hl
              rw [d3'] at h21b
              simp +contextual -implicitDefEqProofs (maxSteps := 2000000) only [↓wP, wQ, wQ1, wQ2, wQ3, wR, boxE, partsOf, ↓reduceIte, Nat.reduceEqDiff, Nat.reduceAdd, Nat.reduceSub, Nat.reduceLeDiff, Nat.reduceLT, Nat.reduceMul, reduceCtorEq, Int.reduceBNe, Int.reduceBEq, Int.reduceLT, Int.reduceLE, Int.reduceGT, h1, h2, h3, h4, h5, h6, h7, h21a, h21b, hl, hsum]
            · simp +contextual -implicitDefEqProofs (maxSteps := 2000000) only [↓wP, wQ, wQ1, wQ2, wQ3, wR, boxE, partsOf, ↓reduceIte, Nat.reduceEqDiff, Nat.reduceAdd, Nat.reduceSub, Nat.reduceLeDiff, Nat.reduceLT, Nat.reduceMul, reduceCtorEq, Int.reduceBNe, Int.reduceBEq, Int.reduceLT, Int.reduceLE, Int.reduceGT, h1, h2, h3, h4, h5, h6, h7, h21a, h21b, hl, hsum]
          · simp +contextual -implicitDefEqProofs (maxSteps := 2000000) only [↓wP, wQ, wQ1, wQ2, wQ3, wR, boxE, partsOf, ↓reduceIte, Nat.reduceEqDiff, Nat.reduceAdd, Nat.reduceSub, Nat.reduceLeDiff, Nat.reduceLT, Nat.reduceMul, reduceCtorEq, Int.reduceBNe, Int.reduceBEq, Int.reduceLT, Int.reduceLE, Int.reduceGT, h1, h2, h3, h4, h5, h6, h7]
        · simp +contextual -implicitDefEqProofs (maxSteps := 2000000) only [↓wP, wQ, wQ1, wQ2, wQ3, wR, boxE, partsOf, ↓reduceIte, Nat.reduceEqDiff, Nat.reduceAdd, Nat.reduceSub, Nat.reduceLeDiff, Nat.reduceLT, Nat.reduceMul, reduceCtorEq, Int.reduceBNe, Int.reduceBEq, Int.reduceLT, Int.reduceLE, Int.reduceGT, h3, h4, h5, h6, h7, h8]
    · simp +contextual -implicitDefEqProofs (maxSteps := 2000000) only [↓wP, wQ, wQ1, wQ2, wQ3, wR, boxE, partsOf, ↓reduceIte, Nat.reduceEqDiff, Nat.reduceAdd, Nat.reduceSub, Nat.reduceLeDiff, Nat.reduceLT, Nat.reduceMul, reduceCtorEq, Int.reduceBNe, Int.reduceBEq, Int.reduceLT, Int.reduceLE, Int.reduceGT]
      exact ⟨3, rfl, by simp, by omega⟩
  · have hne : (runE k ts near v c != 0) = true := by simp [h0]
    obtain ⟨e1, e2⟩ := runE_ne h0
    have e3 : (lst (runC k ts near v c)).length = 0 := by rw [e1]; rfl
    have e4 : (lst (runG k ts near c)).length = 0 := by rw [e2]; rfl
    simp +contextual -implicitDefEqProofs (maxSteps := 2000000) only [↓wP, wQ, wQ1, wQ2, wQ3, wR, boxE, partsOf, ↓reduceIte, Nat.reduceEqDiff, Nat.reduceAdd, Nat.reduceSub, Nat.reduceLeDiff, Nat.reduceLT, Nat.reduceMul, reduceCtorEq, Int.reduceBNe, Int.reduceBEq, Int.reduceLT, Int.reduceLE, Int.reduceGT, f9, h10, h15, hne, e3, e4]
    rfl

theorem f6 (o : Option (List Ver)) (k ts : Int) (near : Bool) (v : Option (List Int)) (hs : Sm o) (hv : (lst v).length < 9223372036854775808) (fs : Bool) (σ : Sto) (n lk : Nat) : callE T fs 6 [slV 3 verV o, .agg [.int .i64 k, .int .u64 ts, .bool near, slV 1 i32V v]] σ n lk = some (.bool true, σ, n) :=
  callE_tr (by decide) (r6 o k ts near v hs hv) (by simp [Tr, Tr_slV]) rfl fs σ n lk

end Go.Q.S4
end

section
/- The table is the program's. -/
namespace Go.Q.S4
open Go.Proofs
def Has (f : Nat) (fn : Fn) : Prop := ∃ F, Try.prog.funcs[f]? = some F ∧ cFunc Try.prog (ownB T) F = some fn ∧ (F.name == "runtime.NumGoroutine") = false
theorem h3 : Has 3 g3 := ⟨Try.f3, Try.func3, by kernel_rfl, by kernel_rfl⟩
theorem h4 : Has 4 g4 := ⟨Try.f4, Try.func4, by kernel_rfl, by kernel_rfl⟩
theorem h5 : Has 5 g5 := ⟨Try.f5, Try.func5, by kernel_rfl, by kernel_rfl⟩
theorem h6 : Has 6 g6 := ⟨Try.f6, Try.func6, by kernel_rfl, by kernel_rfl⟩
theorem h7 : Has 7 g7 := ⟨Try.f7, Try.func7, by kernel_rfl, by kernel_rfl⟩
theorem h8 : Has 8 g8 := ⟨Try.f8, Try.func8, by kernel_rfl, by kernel_rfl⟩
theorem h9 : Has 9 g9 := ⟨Try.f9, Try.func9, by kernel_rfl, by kernel_rfl⟩
theorem h10 : Has 10 g10 := ⟨Try.f10, Try.func10, by kernel_rfl, by kernel_rfl⟩
theorem h11 : Has 11 g11 := ⟨Try.f11, Try.func11, by kernel_rfl, by kernel_rfl⟩
theorem h12 : Has 12 g12 := ⟨Try.f12, Try.func12, by kernel_rfl, by kernel_rfl⟩
theorem h13 : Has 13 g13 := ⟨Try.f13, Try.func13, by kernel_rfl, by kernel_rfl⟩
theorem h14 : Has 14 g14 := ⟨Try.f14, Try.func14, by kernel_rfl, by kernel_rfl⟩
theorem h15 : Has 15 g15 := ⟨Try.f15, Try.func15, by kernel_rfl, by kernel_rfl⟩
theorem h16 : Has 16 g16 := ⟨Try.f16, Try.func16, by kernel_rfl, by kernel_rfl⟩
theorem h17 : Has 17 g17 := ⟨Try.f17, Try.func17, by kernel_rfl, by kernel_rfl⟩
theorem h18 : Has 18 g18 := ⟨Try.f18, Try.func18, by kernel_rfl, by kernel_rfl⟩
theorem h19 : Has 19 g19 := ⟨Try.f19, Try.func19, by kernel_rfl, by kernel_rfl⟩
theorem h20 : Has 20 g20 := ⟨Try.f20, Try.func20, by kernel_rfl, by kernel_rfl⟩
theorem h21 : Has 21 g21 := ⟨Try.f21, Try.func21, by kernel_rfl, by kernel_rfl⟩
theorem h22 : Has 22 g22 := ⟨Try.f22, Try.func22, by kernel_rfl, by kernel_rfl⟩
theorem h23 : Has 23 g23 := ⟨Try.f23, Try.func23, by kernel_rfl, by kernel_rfl⟩
theorem h24 : Has 24 g24 := ⟨Try.f24, Try.func24, by kernel_rfl, by kernel_rfl⟩
theorem h25 : Has 25 g25 := ⟨Try.f25, Try.func25, by kernel_rfl, by kernel_rfl⟩
theorem h26 : Has 26 g26 := ⟨Try.f26, Try.func26, by kernel_rfl, by kernel_rfl⟩
theorem h27 : Has 27 g27 := ⟨Try.f27, Try.func27, by kernel_rfl, by kernel_rfl⟩
theorem h28 : Has 28 g28 := ⟨Try.f28, Try.func28, by kernel_rfl, by kernel_rfl⟩
theorem h29 : Has 29 g29 := ⟨Try.f29, Try.func29, by kernel_rfl, by kernel_rfl⟩
theorem h30 : Has 30 g30 := ⟨Try.f30, Try.func30, by kernel_rfl, by kernel_rfl⟩
theorem h31 : Has 31 g31 := ⟨Try.f31, Try.func31, by kernel_rfl, by kernel_rfl⟩
theorem h32 : Has 32 g32 := ⟨Try.f32, Try.func32, by kernel_rfl, by kernel_rfl⟩
theorem h33 : Has 33 g33 := ⟨Try.f33, Try.func33, by kernel_rfl, by kernel_rfl⟩
theorem h34 : Has 34 g34 := ⟨Try.f34, Try.func34, by kernel_rfl, by kernel_rfl⟩
theorem h35 : Has 35 g35 := ⟨Try.f35, Try.func35, by kernel_rfl, by kernel_rfl⟩
theorem h36 : Has 36 g36 := ⟨Try.f36, Try.func36, by kernel_rfl, by kernel_rfl⟩
theorem h37 : Has 37 g37 := ⟨Try.f37, Try.func37, by kernel_rfl, by kernel_rfl⟩
theorem h38 : Has 38 g38 := ⟨Try.f38, Try.func38, by kernel_rfl, by kernel_rfl⟩
theorem h39 : Has 39 g39 := ⟨Try.f39, Try.func39, by kernel_rfl, by kernel_rfl⟩
theorem h40 : Has 40 g40 := ⟨Try.f40, Try.func40, by kernel_rfl, by kernel_rfl⟩
theorem h41 : Has 41 g41 := ⟨Try.f41, Try.func41, by kernel_rfl, by kernel_rfl⟩
theorem h42 : Has 42 g42 := ⟨Try.f42, Try.func42, by kernel_rfl, by kernel_rfl⟩
theorem h43 : Has 43 g43 := ⟨Try.f43, Try.func43, by kernel_rfl, by kernel_rfl⟩
theorem h44 : Has 44 g44 := ⟨Try.f44, Try.func44, by kernel_rfl, by kernel_rfl⟩
theorem h45 : Has 45 g45 := ⟨Try.f45, Try.func45, by kernel_rfl, by kernel_rfl⟩
theorem h46 : Has 46 g46 := ⟨Try.f46, Try.func46, by kernel_rfl, by kernel_rfl⟩
theorem h47 : Has 47 g47 := ⟨Try.f47, Try.func47, by kernel_rfl, by kernel_rfl⟩
theorem h48 : Has 48 g48 := ⟨Try.f48, Try.func48, by kernel_rfl, by kernel_rfl⟩
theorem h49 : Has 49 g49 := ⟨Try.f49, Try.func49, by kernel_rfl, by kernel_rfl⟩
theorem h50 : Has 50 g50 := ⟨Try.f50, Try.func50, by kernel_rfl, by kernel_rfl⟩
theorem h51 : Has 51 g51 := ⟨Try.f51, Try.func51, by kernel_rfl, by kernel_rfl⟩
theorem h52 : Has 52 g52 := ⟨Try.f52, Try.func52, by kernel_rfl, by kernel_rfl⟩
theorem h53 : Has 53 g53 := ⟨Try.f53, Try.func53, by kernel_rfl, by kernel_rfl⟩
theorem h54 : Has 54 g54 := ⟨Try.f54, Try.func54, by kernel_rfl, by kernel_rfl⟩
theorem h55 : Has 55 g55 := ⟨Try.f55, Try.func55, by kernel_rfl, by kernel_rfl⟩
theorem h56 : Has 56 g56 := ⟨Try.f56, Try.func56, by kernel_rfl, by kernel_rfl⟩
theorem h57 : Has 57 g57 := ⟨Try.f57, Try.func57, by kernel_rfl, by kernel_rfl⟩
theorem h58 : Has 58 g58 := ⟨Try.f58, Try.func58, by kernel_rfl, by kernel_rfl⟩
theorem h59 : Has 59 g59 := ⟨Try.f59, Try.func59, by kernel_rfl, by kernel_rfl⟩
theorem h60 : Has 60 g60 := ⟨Try.f60, Try.func60, by kernel_rfl, by kernel_rfl⟩
theorem tabOf : TabOf Try.prog T := by
  intro f fn h
  simp only [T] at h
  unfold fnOf at h
  split at h
  all_goals first | (cases h; done) | skip
  all_goals (simp only [Option.some.injEq] at h; subst h)
  · exact h3
  · exact h4
  · exact h5
  · exact h6
  · exact h7
  · exact h8
  · exact h9
  · exact h10
  · exact h11
  · exact h12
  · exact h13
  · exact h14
  · exact h15
  · exact h16
  · exact h17
  · exact h18
  · exact h19
  · exact h20
  · exact h21
  · exact h22
  · exact h23
  · exact h24
  · exact h25
  · exact h26
  · exact h27
  · exact h28
  · exact h29
  · exact h30
  · exact h31
  · exact h32
  · exact h33
  · exact h34
  · exact h35
  · exact h36
  · exact h37
  · exact h38
  · exact h39
  · exact h40
  · exact h41
  · exact h42
  · exact h43
  · exact h44
  · exact h45
  · exact h46
  · exact h47
  · exact h48
  · exact h49
  · exact h50
  · exact h51
  · exact h52
  · exact h53
  · exact h54
  · exact h55
  · exact h56
  · exact h57
  · exact h58
  · exact h59
  · exact h60
theorem mixed : Try.prog.follows .mixedOrders = true := by kernel_rfl
end Go.Q.S4
end
