/- The document's rows: Overlay. -/
import Derived.Test.YtfbkhkihiohfkaaSA
import Derived.Sort.AssemblyPlain
section
set_option linter.unusedSimpArgs false
set_option linter.unusedVariables false
namespace Go.Q.SB
open Go.Q
open Nat renaming reduceEqDiff → n1w, reduceAdd → n2w, reduceSub → n3w, reduceLeDiff → n4w, reduceLT → n5w, reduceMul → n6w
open Int renaming reduceBNe → i1w, reduceBEq → i2w, reduceLT → i3w, reduceLE → i4w, reduceGT → i5w
def uV (x : Int) : V := .int .u64 x
theorem keyU : KeyOk (.one .int) uV := fun a b => rfl
theorem insR_len (r : Rw) : ∀ s, (insR r s).length = s.length + 1
  | [] => rfl
  | x :: s => by unfold insR; split <;> simp [insR_len r s]
theorem delR_len (R : List Rw) (a : Int) : (delR R a).length ≤ R.length := List.length_filter_le _ _
theorem putR_len (R : List Rw) (r : Rw) : (putR R r).length ≤ R.length + 1 := by
  unfold putR; rw [insR_len]; have := delR_len R r.id; omega
theorem fold_len (l : List Wr) : ∀ R, (l.foldl ovStep R).length ≤ R.length + l.length := by
  induction l with
  | nil => intro R; simp
  | cons w l ih =>
    intro R
    rw [List.foldl_cons]
    have h1 := ih (ovStep R w)
    have h2 : (ovStep R w).length ≤ R.length + 1 := by
      unfold ovStep; split
      · have := delR_len R w.id; omega
      · exact putR_len _ _
    simp only [List.length_cons]; omega
theorem foldp_len (l : List Rw) : ∀ R, (l.foldl putR R).length ≤ R.length + l.length := by
  induction l with
  | nil => intro R; simp
  | cons w l ih =>
    intro R
    rw [List.foldl_cons]
    have h1 := ih (putR R w)
    have h2 := putR_len R w
    simp only [List.length_cons]; omega
theorem ovR_len (rows : List Rw) (l : List Wr) : (ovR rows l).length ≤ rows.length + l.length := by
  unfold ovR
  have h1 := fold_len l (rows.foldl putR [])
  have h2 := foldp_len rows []
  simp only [List.length_nil] at h2; omega
theorem foldp_all {P : Vc → Prop} : ∀ (l R : List Rw), (∀ r ∈ l, P r.v) → (∀ r ∈ R, P r.v) → ∀ r ∈ l.foldl putR R, P r.v
  | [], R, _, h2 => h2
  | w :: l, R, h1, h2 => foldp_all l (putR R w) (fun r hr => h1 r (List.mem_cons_of_mem _ hr)) (fun r hr => by
      rcases mem_putR.1 hr with rfl | hr
      · exact h1 _ List.mem_cons_self
      · exact h2 r hr.1)
theorem fold_all {P : Vc → Prop} : ∀ (l : List Wr) (R : List Rw), (∀ w ∈ l, P w.v) → (∀ r ∈ R, P r.v) → ∀ r ∈ l.foldl ovStep R, P r.v
  | [], R, _, h2 => h2
  | w :: l, R, h1, h2 => fold_all l (ovStep R w) (fun r hr => h1 r (List.mem_cons_of_mem _ hr)) (fun r hr => by
      unfold ovStep at hr
      split at hr
      · exact h2 r (mem_delR.1 hr).1
      · rcases mem_putR.1 hr with rfl | hr
        · exact h1 w List.mem_cons_self
        · exact h2 r hr.1)
theorem ovR_all {P : Vc → Prop} {rows : List Rw} {l : List Wr} (h1 : ∀ r ∈ rows, P r.v) (h2 : ∀ w ∈ l, P w.v) : ∀ r ∈ ovR rows l, P r.v :=
  fold_all l _ h2 (foldp_all rows [] h1 (fun r hr => by simp at hr))
theorem born_inj : ∀ {L : List (En Int Vc)}, (L.map (·.2.2)).Nodup → ∀ {e e' : En Int Vc}, e ∈ L → e' ∈ L → e.2.2 = e'.2.2 → e = e'
  | [], _, e, e', he, _, _ => by simp at he
  | x :: L, h, e, e', he, he', hs => by
    rw [List.map_cons, List.nodup_cons] at h
    rcases List.mem_cons.1 he with e1 | he <;> rcases List.mem_cons.1 he' with e2 | he'
    · rw [e1, e2]
    · exact absurd (List.mem_map.2 ⟨e', he', by rw [← hs, e1]⟩) h.1
    · exact absurd (List.mem_map.2 ⟨e, he, by rw [hs, e2]⟩) h.1
    · exact born_inj h.2 he he' hs
def FitR (l : List Rw) : Prop := l.length ≤ 1000000 ∧ ∀ f ∈ l, (lst f.v).length ≤ 1000000
theorem r68 (l : Option (List Wr)) (c : Int) (o : Option (List Rw)) (h : FitW (lst l)) (ho : FitR (lst o)) : res T 68 [slV 4 wrV l, .int .i64 c, slV 2 rwV o] = some (slV 2 rwV (oL ((ovR (lst o) ((lst l).filter fun w => w.c == c)).map cpR))) := by
  refine run_res (run_pure (fn := g68) rfl rfl (by decide) ?_)
  simp only [g68, b68, oO, oN, mV, lD, gO, pP, qQ, cI, aR]
  have hl := h.1
  have hol := ho.1
  have f99' := f99 l c h
  obtain ⟨W, hW⟩ : ∃ W, W = (lst l).filter (fun w => w.c == c) := ⟨_, rfl⟩
  have hWl : W.length ≤ 1000000 := by rw [hW]; have := List.length_filter_le (fun w : Wr => w.c == c) (lst l); omega
  have hWv : ∀ w ∈ W, (lst w.v).length ≤ 1000000 := fun w hw => by rw [hW] at hw; exact h.2 w (List.mem_filter.1 hw).1
  rw [← hW] at f99' ⊢
  obtain ⟨R, hR⟩ : ∃ R, R = ovR (lst o) W := ⟨_, rfl⟩
  have hRl : R.length ≤ 2000000 := by rw [hR]; have := ovR_len (lst o) W; omega
  have hRv : ∀ r ∈ R, (lst r.v).length ≤ 1000000 := by rw [hR]; exact ovR_all (P := fun v => (lst v).length ≤ 1000000) ho.2 hWv
  rw [← hR]
  simp +contextual -implicitDefEqProofs (maxSteps := 2000000) only [↓wP, wQ, wQ1, wQ2, wQ3, wR, boxE, partsOf, ↓reduceIte, n1w, n2w, n3w, n4w, n5w, n6w, reduceCtorEq, i1w, i2w, i3w, i4w, i5w]
  refine WC_cutB (fun env σ n => env 0 = slV 4 wrV l ∧ env 1 = .int .i64 c ∧ env 7 = .mp 0 ∧ 1 ≤ n ∧ ∃ Lm clk, MOk Lm clk ∧ σ 0 = some (.map (ens uV vV Lm) clk) ∧ RM ((lst o).foldl putR []) Lm) ?_ ?_
  · refine WC_for (lst o).length 0 (fun (j : Nat) env σ n => env 0 = slV 4 wrV l ∧ env 1 = .int .i64 c ∧ env 7 = .mp 0 ∧ env 17 = slV 2 rwV o ∧ 1 ≤ n ∧ ∃ Lm clk, MOk Lm clk ∧ σ 0 = some (.map (ens uV vV Lm) clk) ∧ RM (((lst o).take j).foldl putR []) Lm) (by omega) (by decide) (by decide) (fun _ _ => rfl) (fun _ _ _ => rfl) ?_ ?_ _ _ _ rfl rfl ?_
    · intro j env σ n hj e1 e2 ⟨g1, g2, g3, g4, g5, Lm, clk, m1, m2, m3⟩
      simp only [vl_tmp] at e2
      have hx : (lst o)[j]? = some (lst o)[j] := List.getElem?_eq_getElem hj
      have ht : ((lst o).take (j + 1)).foldl putR [] = putR (((lst o).take j).foldl putR []) (lst o)[j] := by
        rw [← List.take_append_getElem hj, List.foldl_append]; rfl
      generalize (lst o)[j] = x at *
      obtain ⟨σ1, hσ1⟩ : ∃ σ1, σ1 = upd (upd σ n (some (.row 2 [.agg [.int .u64 0, .nilS]]))) n (some (.row 2 [.agg [.int .u64 x.id, slV 1 i32V x.v]])) := ⟨_, rfl⟩
      have s0 : σ1 0 = some (.map (ens uV vV Lm) clk) := by rw [hσ1, upd_ne (by omega), upd_ne (by omega)]; exact m2
      have sn : σ1 n = some (.row 2 [.agg [.int .u64 x.id, slV 1 i32V x.v]]) := by rw [hσ1, upd_self]
      have pu := mupd_ens (ke := uV) (ve := vV) (lk := 0) keyU m1 s0 (Nat.zero_le _) x.id x.v (n + 1)
      simp only [uV, vV] at pu
      simp +contextual -implicitDefEqProofs (maxSteps := 2000000) only [↓wP, wQ, wQ1, wQ2, wQ3, wR, boxE, partsOf, ↓reduceIte, n1w, n2w, n3w, n4w, n5w, n6w, reduceCtorEq, i1w, i2w, i3w, i4w, i5w, e1, e2, g1, g2, g3, g4, hx, rwV_eq, ← hσ1, sn, pu]
      exact ⟨_, _, mput_ok m1 _ _, rfl, by rw [ht]; exact m3.put m1 x⟩
    · intro env σ n ⟨g1, g2, g3, g4, g5, Lm, clk, m1, m2, m3⟩ e1 e2
      rw [List.take_length] at m3
      exact ⟨rfl, rfl, g1, g2, g3, g5, Lm, clk, m1, m2, m3⟩
    · exact ⟨rfl, rfl, rfl, rfl, Nat.le_refl _, [], 0, MOk.nil, rfl, RM.nil⟩
  · intro env σ n ⟨g1, g2, g3, g5, Lm, clk, m1, m2, m3⟩
    simp +contextual -implicitDefEqProofs (maxSteps := 2000000) only [↓wP, wQ, wQ1, wQ2, wQ3, wR, boxE, partsOf, ↓reduceIte, n1w, n2w, n3w, n4w, n5w, n6w, reduceCtorEq, i1w, i2w, i3w, i4w, i5w, g1, g2, f99']
    refine WC_cutB (fun env σ n => env 7 = .mp 0 ∧ 1 ≤ n ∧ ∃ Lm clk, MOk Lm clk ∧ σ 0 = some (.map (ens uV vV Lm) clk) ∧ RM R Lm) ?_ ?_
    · refine WC_for (lst (oL W)).length 0 (fun (j : Nat) env σ n => env 7 = .mp 0 ∧ env 31 = slV 4 wrV (oL W) ∧ 1 ≤ n ∧ ∃ Lm clk, MOk Lm clk ∧ σ 0 = some (.map (ens uV vV Lm) clk) ∧ RM ((W.take j).foldl ovStep ((lst o).foldl putR [])) Lm) (by rw [lst_oL]; omega) (by decide) (by decide) (fun _ _ => rfl) (fun _ _ _ => rfl) ?_ ?_ _ _ _ rfl rfl ?_
      · clear g1 g2 g3 g5 m1 m2 m3 Lm clk
        intro j env σ n hj e1 e2 ⟨g3, g4, g5, Lm, clk, m1, m2, m3⟩
        rw [lst_oL] at hj
        simp only [vl_tmp] at e2
        have hx : (lst (oL W))[j]? = some W[j] := by rw [lst_oL]; exact List.getElem?_eq_getElem hj
        have ht : (W.take (j + 1)).foldl ovStep ((lst o).foldl putR []) = ovStep ((W.take j).foldl ovStep ((lst o).foldl putR [])) W[j] := by
          rw [← List.take_append_getElem hj, List.foldl_append]; rfl
        generalize W[j] = x at *
        obtain ⟨σ1, hσ1⟩ : ∃ σ1, σ1 = upd (upd σ n (some (.row 4 [.agg [.int .i64 0, .int .u64 0, .bool false, .nilS]]))) n (some (.row 4 [.agg [.int .i64 x.c, .int .u64 x.id, .bool x.g, slV 1 i32V x.v]])) := ⟨_, rfl⟩
        have s0 : σ1 0 = some (.map (ens uV vV Lm) clk) := by rw [hσ1, upd_ne (by omega), upd_ne (by omega)]; exact m2
        have sn : σ1 n = some (.row 4 [.agg [.int .i64 x.c, .int .u64 x.id, .bool x.g, slV 1 i32V x.v]]) := by rw [hσ1, upd_self]
        have pu := mupd_ens (ke := uV) (ve := vV) (lk := 0) keyU m1 s0 (Nat.zero_le _) x.id x.v (n + 1)
        have pd := mdel_ens (ke := uV) (ve := vV) (lk := 0) keyU m1 s0 (Nat.zero_le _) x.id (n + 1)
        simp only [uV, vV] at pu pd
        cases hg : x.g
        all_goals rw [hg] at hσ1 sn
        · have e : ovStep ((W.take j).foldl ovStep ((lst o).foldl putR [])) x = putR ((W.take j).foldl ovStep ((lst o).foldl putR [])) ⟨x.id, x.v⟩ := by unfold ovStep; rw [hg]; rfl
          simp +contextual -implicitDefEqProofs (maxSteps := 2000000) only [↓wP, wQ, wQ1, wQ2, wQ3, wR, boxE, partsOf, ↓reduceIte, n1w, n2w, n3w, n4w, n5w, n6w, reduceCtorEq, i1w, i2w, i3w, i4w, i5w, e1, e2, g3, g4, hx, wrV_eq, hg, ← hσ1, sn, pu]
          exact ⟨_, _, mput_ok m1 _ _, rfl, by rw [ht, e]; exact m3.put m1 ⟨x.id, x.v⟩⟩
        · have e : ovStep ((W.take j).foldl ovStep ((lst o).foldl putR [])) x = delR ((W.take j).foldl ovStep ((lst o).foldl putR [])) x.id := by unfold ovStep; rw [hg]; rfl
          simp +contextual -implicitDefEqProofs (maxSteps := 2000000) only [↓wP, wQ, wQ1, wQ2, wQ3, wR, boxE, partsOf, ↓reduceIte, n1w, n2w, n3w, n4w, n5w, n6w, reduceCtorEq, i1w, i2w, i3w, i4w, i5w, e1, e2, g3, g4, hx, wrV_eq, hg, ← hσ1, sn, pd]
          exact ⟨_, _, mdel_ok m1 _, rfl, by rw [ht, e]; exact m3.del x.id⟩
      · clear g1 g2 g3 g5 m1 m2 m3 Lm clk
        intro env σ n ⟨g3, g4, g5, Lm, clk, m1, m2, m3⟩ e1 e2
        rw [lst_oL, List.take_length] at m3
        exact ⟨rfl, rfl, g3, g5, Lm, clk, m1, m2, by rw [hR]; exact m3⟩
      · simp +contextual -implicitDefEqProofs (maxSteps := 2000000) only [↓wP, wQ, wQ1, wQ2, wQ3, wR, boxE, partsOf, ↓reduceIte, n1w, n2w, n3w, n4w, n5w, n6w, reduceCtorEq, i1w, i2w, i3w, i4w, i5w, g3]
        exact ⟨g5, Lm, clk, m1, m2, m3⟩
    · clear g1 g2 g3 g5 m1 m2 m3 Lm clk f99'
      intro env σ n ⟨g3, g5, Lm, clk, m1, m2, m3⟩
      simp +contextual -implicitDefEqProofs (maxSteps := 2000000) only [↓wP, wQ, wQ1, wQ2, wQ3, wR, boxE, partsOf, ↓reduceIte, n1w, n2w, n3w, n4w, n5w, n6w, reduceCtorEq, i1w, i2w, i3w, i4w, i5w]
      refine WC_loopI 0 (fun (d : Nat) env σ n => d ≤ R.length ∧ env 7 = .mp 0 ∧ 1 ≤ n ∧ (∃ Lm clk, MOk Lm clk ∧ σ 0 = some (.map (ens uV vV Lm) clk) ∧ RM (R.drop d) Lm) ∧
        ∃ v, env 12 = v ∧ Bls σ 2 v (oL (((R.take d).map cpR).map rwV)) (fun i => 1 ≤ i ∧ i < n)) (fun d => R.length - d) ?_ 0 _ _ _ ?_
      · clear g3 g5 m1 m2 m3 Lm clk
        intro d env σ n ⟨hd, g3, g5, ⟨Lm, clk, m1, m2, m3⟩, v, g6, g7⟩
        have hml : (ens uV vV Lm).length = Lm.length := List.length_map _
        by_cases hdl : d < R.length
        · have hdr : R.drop d = R[d] :: R.drop (d + 1) := List.drop_eq_getElem_cons hdl
          have hrv := hRv _ (List.getElem_mem hdl)
          have htk : R.take (d + 1) = R.take d ++ [R[d]] := (List.take_append_getElem hdl).symm
          obtain ⟨r, hr⟩ : ∃ r, r = R[d] := ⟨_, rfl⟩
          rw [← hr] at hdr hrv htk
          rw [hdr] at m3
          have hpos := m3.some
          have hp : (0 : Int) < (Lm.length : Int) := by omega
          have hrg : rangeE (.mp 0) σ n = some (.it n, upd σ n (some (.iter 0 clk [] clk)), n + 1) := by simp [rangeE, m2]
          simp +contextual -implicitDefEqProofs (maxSteps := 2000000) only [↓wP, wQ, wQ1, wQ2, wQ3, wR, boxE, partsOf, ↓reduceIte, n1w, n2w, n3w, n4w, n5w, n6w, reduceCtorEq, i1w, i2w, i3w, i4w, i5w, g3, m2, hml, hp, hrg]
          refine WC_cutB (fun env σ' n' => env 7 = .mp 0 ∧ env 12 = v ∧ env 14 = .int .u64 r.id ∧ n' = n + 1 ∧ ∀ i, i < n → σ' i = σ i) ?_ ?_
          · refine WC_loopM 0 (fun (seen : List Nat) env σ'' n'' => env 52 = .it n ∧ env 7 = .mp 0 ∧ env 12 = v ∧ n'' = n + 1 ∧ (∀ i, i < n → σ'' i = σ i) ∧ σ'' n = some (.iter 0 clk seen clk) ∧
              ((env 13 = .bool true ∧ env 14 = .int .u64 0 ∧ ∀ e ∈ Lm, e.2.2 ∉ seen) ∨ (env 13 = .bool false ∧ ∃ a, env 14 = .int .u64 a ∧ (∃ e ∈ Lm, e.1 = a) ∧ ∀ e ∈ Lm, e.2.2 ∈ seen → a ≤ e.1))) (fun seen => (Lm.filter fun x => decide (x.2.2 ∉ seen)).length) ?_ [] _ _ _ ?_
            · intro seen env σ'' n'' ⟨k1, k2, k3, k4, k5, k6, k7⟩
              subst k4
              rw [vl_tmp, k1]
              have k5' : σ'' 0 = some (.map (ens uV vV Lm) clk) := by rw [k5 0 (by omega)]; exact m2
              refine nextW_ens m1 k6 k5' (Nat.zero_le _) (fun e he hn => ?_) (fun hall => ?_)
              · obtain ⟨S0, hS0⟩ : ∃ S, S = upd σ'' n (some (.iter 0 clk (seen ++ [e.2.2]) clk)) := ⟨_, rfl⟩
                rw [← hS0]
                have b1 : S0 0 = some (.map (ens uV vV Lm) clk) := by rw [hS0, upd_ne (by omega)]; exact k5'
                have b2 : S0 n = some (.iter 0 clk (seen ++ [e.2.2]) clk) := by rw [hS0, upd_self]
                have b3 : ∀ i, i < n → S0 i = σ i := fun i hi => by rw [hS0, upd_ne (by omega)]; exact k5 i hi
                have hen := entry_ens m1 b2 b1 he
                have hlt := unseen_lt he hn
                have hborn : ∀ e' ∈ Lm, e'.2.2 ∈ seen ++ [e.2.2] → e'.2.2 ∈ seen ∨ e' = e := by
                  intro e' he' hs'
                  rcases List.mem_append.1 hs' with h' | h'
                  · exact .inl h'
                  · refine .inr ?_
                    rw [List.mem_singleton] at h'
                    exact born_inj m1.born he' he h'
                obtain ⟨a, vv, s⟩ := e
                simp only [uV, vV] at hen
                rcases k7 with ⟨k7, k8, k9⟩ | ⟨k7, a0, k8, k9, k10⟩
                · simp +contextual -implicitDefEqProofs (maxSteps := 2000000) only [↓wP, wQ, wQ1, wQ2, wQ3, wR, boxE, partsOf, ↓reduceIte, n1w, n2w, n3w, n4w, n5w, n6w, reduceCtorEq, i1w, i2w, i3w, i4w, i5w, k1, k2, k3, k7, hen]
                  refine ⟨seen ++ [s], hlt, b3, b2, .inr ⟨_, rfl, ⟨_, he, rfl⟩, fun e' he' hs' => ?_⟩⟩
                  rcases hborn e' he' hs' with h' | h'
                  · exact absurd h' (k9 e' he')
                  · rw [h']; exact Int.le_refl _
                · by_cases hla : a < a0
                  · simp +contextual -implicitDefEqProofs (maxSteps := 2000000) only [↓wP, wQ, wQ1, wQ2, wQ3, wR, boxE, partsOf, ↓reduceIte, n1w, n2w, n3w, n4w, n5w, n6w, reduceCtorEq, i1w, i2w, i3w, i4w, i5w, k1, k2, k3, k7, k8, hen, hla]
                    refine ⟨seen ++ [s], hlt, b3, b2, .inr ⟨_, rfl, ⟨_, he, rfl⟩, fun e' he' hs' => ?_⟩⟩
                    rcases hborn e' he' hs' with h' | h'
                    · have := k10 e' he' h'; omega
                    · rw [h']; exact Int.le_refl _
                  · simp +contextual -implicitDefEqProofs (maxSteps := 2000000) only [↓wP, wQ, wQ1, wQ2, wQ3, wR, boxE, partsOf, ↓reduceIte, n1w, n2w, n3w, n4w, n5w, n6w, reduceCtorEq, i1w, i2w, i3w, i4w, i5w, k1, k2, k3, k7, k8, hen, hla]
                    refine ⟨seen ++ [s], hlt, b3, b2, .inr ⟨a0, rfl, k9, fun e' he' hs' => ?_⟩⟩
                    rcases hborn e' he' hs' with h' | h'
                    · exact k10 e' he' h'
                    · rw [h']; show a0 ≤ a; omega
              · rcases k7 with ⟨k7, k8, k9⟩ | ⟨k7, a0, k8, k9, k10⟩
                · cases Lm with
                  | nil => simp at hpos
                  | cons e L => exact absurd (hall e List.mem_cons_self) (k9 e List.mem_cons_self)
                · have ha := m3.head m1 k9 (fun e he => k10 e he (hall e he))
                  subst ha
                  simp +contextual -implicitDefEqProofs (maxSteps := 2000000) only [↓wP, wQ, wQ1, wQ2, wQ3, wR, boxE, partsOf, ↓reduceIte, n1w, n2w, n3w, n4w, n5w, n6w, reduceCtorEq, i1w, i2w, i3w, i4w, i5w, k2, k3, k8]
                  exact ⟨rfl, rfl, k2, k3, k8, rfl, k5⟩
            · simp +contextual -implicitDefEqProofs (maxSteps := 2000000) only [↓wP, wQ, wQ1, wQ2, wQ3, wR, boxE, partsOf, ↓reduceIte, n1w, n2w, n3w, n4w, n5w, n6w, reduceCtorEq, i1w, i2w, i3w, i4w, i5w, g3, g6]
              exact ⟨fun i hi => by rw [if_neg (by omega)], .inl (fun e _ h => by simp at h)⟩
          · intro env σ' n' ⟨k1, k2, k3, k4, k5⟩
            subst k4
            have b1 : σ' 0 = some (.map (ens uV vV Lm) clk) := by rw [k5 0 (by omega)]; exact m2
            have hmg : mgetE false (.one .int) .nilS (some (ens uV vV Lm)) (.int .u64 r.id) = some (slV 1 i32V r.v) := by
              have := mget_ens (ve := vV) keyU false .nilS r.id Lm
              simp only [uV] at this
              rw [this, (m3.2 r.id r.v).1 List.mem_cons_self]
              rfl
            have hlm : ((lst r.v).map i32V).length = (lst r.v).length := List.length_map _
            have hLl : (lst r.v).length * 4 ≤ LIM := by unfold LIM; omega
            have g7' := g7.loc (σ' := σ') (S' := fun i => 1 ≤ i ∧ i < n) (fun i hi => k5 i hi.2) (fun i hi => hi)
            simp +contextual -implicitDefEqProofs (maxSteps := 2000000) only [↓wP, wQ, wQ1, wQ2, wQ3, wR, boxE, partsOf, ↓reduceIte, n1w, n2w, n3w, n4w, n5w, n6w, reduceCtorEq, i1w, i2w, i3w, i4w, i5w, k1, k2, k3, b1, hmg, true_or, hlm, hLl]
            generalize hσ1 : upd _ (n + 3) _ = σ1
            have so : ∀ i, i < n + 1 → σ1 i = σ' i := fun i hi => by
              rw [← hσ1, upd_ne (by omega), upd_ne (by omega), upd_ne (by omega), upd_ne (by omega)]
            have sv : σ1 (n + 2) = some (.row 1 ((lst r.v).map i32V)) := by
              rw [← hσ1, upd_ne (by omega), upd_self]
            have h5' := g7'.loc (σ' := σ1) (S' := fun i => 1 ≤ i ∧ i < n) (fun i hi => so i (by omega)) (fun i hi => hi)
            have hne : ∀ i, (i = 0 ∨ n ≤ i) → ∀ off len s, v ≠ .ref i off len s := by
              intro i hi off len s e
              subst e
              have := Bls.ids g7 ⟨off, len, s, rfl⟩
              omega
            refine stepW_appS (us := [rwV (cpR r)]) (S' := fun i => 1 ≤ i) h5' (fun i hi => by omega) (fun i hi => hi.1) (by omega) (fz_row sv ⟨by omega, by omega, hne _ (by omega)⟩) ?_ (fun v' σ2 n' q1 q2 q3 q4 => ?_)
            · rw [lst_oL, List.length_map, List.length_map, List.length_take]; unfold LIM; simp; omega
            · have b2 : σ2 0 = some (.map (ens uV vV Lm) clk) := by rw [q4 0 (by omega) (hne 0 (.inl rfl)), so 0 (by omega)]; exact b1
              have pd := mdel_ens (ke := uV) (ve := vV) (lk := 0) keyU m1 b2 (Nat.zero_le _) r.id n'
              simp only [uV] at pd
              simp +contextual -implicitDefEqProofs (maxSteps := 2000000) only [↓wP, wQ, wQ1, wQ2, wQ3, wR, boxE, partsOf, ↓reduceIte, n1w, n2w, n3w, n4w, n5w, n6w, reduceCtorEq, i1w, i2w, i3w, i4w, i5w, k1, k2, k3, q1.cells, pd]
              refine ⟨d + 1, by omega, by omega, by omega, ⟨_, _, mdel_ok m1 _, rfl, ?_⟩, _, rfl, ?_⟩
              · have := m3.del r.id
                rw [asc_head m3.1] at this
                exact this
              · rw [htk, List.map_append, List.map_append, ← appO_oL]
                exact q1.loc (fun i hi => by rw [upd_ne (by omega)]) (fun i hi => hi)
        · have e0 : R.drop d = [] := List.drop_of_length_le (by omega)
          rw [e0] at m3
          have hnil := m3.none m1
          subst hnil
          have e1 : R.take d = R := List.take_of_length_le (by omega)
          rw [e1] at g7
          have hf := g7.frz
          have z0 : ¬ ((0 : Int) < ((0 : Nat) : Int)) := by decide
          simp only [List.length_nil] at hml
          simp +contextual -implicitDefEqProofs (maxSteps := 2000000) only [↓wP, wQ, wQ1, wQ2, wQ3, wR, boxE, partsOf, ↓reduceIte, n1w, n2w, n3w, n4w, n5w, n6w, reduceCtorEq, i1w, i2w, i3w, i4w, i5w, g3, g6, m2, hml, z0]
          rw [hf, slV_oL]
      · simp +contextual -implicitDefEqProofs (maxSteps := 2000000) only [↓wP, wQ, wQ1, wQ2, wQ3, wR, boxE, partsOf, ↓reduceIte, n1w, n2w, n3w, n4w, n5w, n6w, reduceCtorEq, i1w, i2w, i3w, i4w, i5w, g3]
        exact ⟨g5, ⟨Lm, clk, m1, m2, m3⟩, by simp [oL, Bls]⟩
end Go.Q.SB
end

section
/- The document's State: the rows at a time. -/
set_option linter.unusedSimpArgs false
set_option linter.unusedVariables false
namespace Go.Q.SB
open Go.Q
open Nat renaming reduceEqDiff → n1w, reduceAdd → n2w, reduceSub → n3w, reduceLeDiff → n4w, reduceLT → n5w, reduceMul → n6w
open Int renaming reduceBNe → i1w, reduceBEq → i2w, reduceLT → i3w, reduceLE → i4w, reduceGT → i5w
theorem callE_sh {f : Nat} {args ts : List V} {r : V} {σ : Sto} (hm : T.mode f ≠ .raw) (hts : args.mapM (frz σ 12) = some ts) (hr : res T f ts = some r) (ht : ∀ σ n, thaw σ n r = (r, σ, n)) (n : Nat) :
    ∃ σ', callE T true f args σ n 0 = some (r, σ', n) := by
  rw [callE_eq hm, hts, callR_some, hr, retE_some]
  unfold backE
  split
  · exact ⟨σ, by rw [ht]⟩
  · refine ⟨dropL σ (args.flatMap (rch σ 12)), ?_⟩
    rw [if_pos (by simp), ht]
theorem callE_sh' {f : Nat} {args ts : List V} {r : V} {σ : Sto} (hm : T.mode f ≠ .raw) (hts : args.mapM (frz σ 12) = some ts) (hr : res T f ts = some r) (ht : ∀ σ n, thaw σ n r = (r, σ, n)) (n : Nat) :
    ∃ σ', callE T true f args σ n 0 = some (r, σ', n) ∧ ∀ i, i ∉ args.flatMap (rch σ 12) → σ' i = σ i := by
  rw [callE_eq hm, hts, callR_some, hr, retE_some]
  unfold backE
  split
  · exact ⟨σ, by rw [ht], fun _ _ => rfl⟩
  · refine ⟨dropL σ (args.flatMap (rch σ 12)), ?_, fun i hi => by unfold dropL; rw [if_neg hi]⟩
    rw [if_pos (by simp), ht]
theorem f68 (l : Option (List Wr)) (c : Int) (o : Option (List Rw)) (h : FitW (lst l)) (ho : FitR (lst o)) (fs : Bool) (σ : Sto) (n lk : Nat) :
    callE T fs 68 [slV 4 wrV l, .int .i64 c, slV 2 rwV o] σ n lk = some (slV 2 rwV (oL ((ovR (lst o) ((lst l).filter fun w => w.c == c)).map cpR)), σ, n) :=
  callE_tr (by decide) (r68 l c o h ho) (by simp [Tr, Tr_slV]) (Nw_slV _ _ _ _) fs σ n lk
def stStep (c t : Int) (w : List Wr) (f : Fa) : List Wr := if f.ts ≤ t ∧ f.w.c = c then w.filter (fun x => x.id != f.w.id) ++ [f.w] else w
def stW (l : List Fa) (c t : Int) : List Wr := l.foldl (stStep c t) []
theorem stW_snoc (l : List Fa) (f : Fa) (c t : Int) : stW (l ++ [f]) c t = stStep c t (stW l c t) f := by unfold stW; rw [List.foldl_append]; rfl
theorem stW_len (l : List Fa) (c t : Int) : ∀ j, (stW (l.take j) c t).length ≤ j := by
  intro j
  induction j with
  | zero => simp [stW]
  | succ j ih =>
    by_cases hj : j < l.length
    · rw [← List.take_append_getElem hj, stW_snoc]
      unfold stStep
      split
      · have := List.length_filter_le (fun x : Wr => x.id != (l[j]).w.id) (stW (l.take j) c t)
        simp only [List.length_append, List.length_singleton]; omega
      · omega
    · rw [List.take_of_length_le (by omega)]; rw [List.take_of_length_le (by omega)] at ih; omega
theorem stW_mem (l : List Fa) (c t : Int) : ∀ w ∈ stW l c t, w.c = c ∧ ∃ f ∈ l, f.w = w := by
  have key : ∀ (l : List Fa) (W : List Wr) (P : Wr → Prop), (∀ w ∈ W, P w) → (∀ f ∈ l, f.w.c = c → P f.w) → ∀ w ∈ l.foldl (stStep c t) W, P w := by
    intro l
    induction l with
    | nil => intro W P h1 _; exact h1
    | cons f l ih =>
      intro W P h1 h2
      refine ih _ P (fun w hw => ?_) (fun g hg => h2 g (List.mem_cons_of_mem _ hg))
      unfold stStep at hw
      split at hw
      · rename_i hc
        rcases List.mem_append.1 hw with hw | hw
        · exact h1 w (List.mem_filter.1 hw).1
        · rw [List.mem_singleton] at hw; subst hw; exact h2 f List.mem_cons_self hc.2
      · exact h1 w hw
  exact key l [] (fun w => w.c = c ∧ ∃ f ∈ l, f.w = w) (fun w hw => by simp at hw) (fun f hf hc => ⟨hc, f, hf, rfl⟩)
def stR (l : List Fa) (c t : Int) : List Rw := (ovR [] (stW l c t)).map cpR
def anyI (R : List Rw) (id : Int) : Bool := R.any fun r => r.id == id
def wB (W : List Wr) (id : Int) (b : Bool) : Bool := W.foldl (fun b w => if w.id = id then !w.g else b) b
theorem anyI_del (R : List Rw) (a id : Int) : anyI (delR R a) id = if id = a then false else anyI R id := by
  unfold anyI delR
  rw [Bool.eq_iff_iff]
  split
  · rename_i e
    simp only [List.any_eq_true, List.mem_filter, decide_eq_true_eq, beq_iff_eq, Bool.false_eq_true, iff_false, not_exists]
    rintro x ⟨⟨_, h1⟩, h2⟩
    exact h1 (by rw [h2, e])
  · rename_i e
    simp only [List.any_eq_true, List.mem_filter, decide_eq_true_eq, beq_iff_eq]
    constructor
    · rintro ⟨x, ⟨h1, -⟩, h2⟩; exact ⟨x, h1, h2⟩
    · rintro ⟨x, h1, h2⟩; exact ⟨x, ⟨h1, by rw [h2]; exact e⟩, h2⟩
theorem anyI_put (R : List Rw) (r : Rw) (id : Int) : anyI (putR R r) id = if id = r.id then true else anyI R id := by
  unfold anyI
  rw [Bool.eq_iff_iff]
  split
  · rename_i e
    simp only [List.any_eq_true, beq_iff_eq, iff_true]
    exact ⟨r, mem_putR.2 (.inl rfl), e.symm⟩
  · rename_i e
    simp only [List.any_eq_true, beq_iff_eq]
    constructor
    · rintro ⟨x, h1, h2⟩
      rcases mem_putR.1 h1 with rfl | ⟨h1, -⟩
      · exact absurd h2.symm e
      · exact ⟨x, h1, h2⟩
    · rintro ⟨x, h1, h2⟩; exact ⟨x, mem_putR.2 (.inr ⟨h1, by rw [h2]; exact e⟩), h2⟩
theorem anyI_fold : ∀ (W : List Wr) (R : List Rw) (id : Int), anyI (W.foldl ovStep R) id = wB W id (anyI R id)
  | [], R, id => rfl
  | w :: W, R, id => by
    rw [List.foldl_cons, anyI_fold W (ovStep R w) id]
    show _ = wB W id _
    congr 1
    unfold ovStep
    cases hg : w.g
    · simp only [Bool.false_eq_true, if_false]
      rw [anyI_put]
      by_cases e : id = w.id
      · rw [if_pos e, if_pos e.symm, hg]; rfl
      · rw [if_neg e, if_neg (fun h => e h.symm)]
    · simp only [if_true]
      rw [anyI_del]
      by_cases e : id = w.id
      · rw [if_pos e, if_pos e.symm, hg]; rfl
      · rw [if_neg e, if_neg (fun h => e h.symm)]
theorem wB_app (W : List Wr) (w : Wr) (id : Int) (b : Bool) : wB (W ++ [w]) id b = if w.id = id then !w.g else wB W id b := by
  unfold wB; rw [List.foldl_append]; rfl
theorem wB_filter (W : List Wr) (a id : Int) (b : Bool) (h : id ≠ a) : wB (W.filter fun x => x.id != a) id b = wB W id b := by
  induction W generalizing b with
  | nil => rfl
  | cons w W ih =>
    rw [List.filter_cons]
    by_cases e : w.id = a
    · have e1 : (w.id != a) = false := by simp [e]
      rw [e1]
      simp only [Bool.false_eq_true, if_false]
      rw [ih]
      show wB W id b = wB W id (if w.id = id then !w.g else b)
      rw [if_neg (fun h' => h (by rw [← h', e]))]
    · have e1 : (w.id != a) = true := by simp [e]
      rw [e1]
      simp only [if_true]
      show wB (W.filter _) id _ = wB W id _
      rw [ih]
theorem stW_there (l : List Fa) (c t id : Int) : wB (stW l c t) id false = isB (l.filter fun f => decide (f.ts ≤ t)) (c, id) := by
  have key : ∀ n, n ≤ l.length → wB (stW (l.take n) c t) id false = isB ((l.take n).filter fun f => decide (f.ts ≤ t)) (c, id) := by
    intro n
    induction n with
    | zero => intro _; rfl
    | succ n ih =>
      intro hn
      have hn' : n < l.length := by omega
      rw [← List.take_append_getElem hn', stW_snoc, List.filter_append]
      generalize l[n] = f
      have ih' := ih (by omega)
      unfold stStep
      by_cases h1 : f.ts ≤ t
      · have e1 : [f].filter (fun f => decide (f.ts ≤ t)) = [f] := by simp [h1]
        rw [e1, isB_snoc]
        by_cases h2 : f.w.c = c
        · rw [if_pos ⟨h1, h2⟩, wB_app]
          by_cases h3 : f.w.id = id
          · rw [if_pos h3, if_pos (by unfold key; rw [h2, h3])]
          · rw [if_neg h3, if_neg (by unfold key; simp [h3]), wB_filter _ _ _ _ (fun h => h3 h.symm), ih']
        · rw [if_neg (by rintro ⟨-, h⟩; exact h2 h), if_neg (by unfold key; simp [h2]), ih']
      · have e1 : [f].filter (fun f => decide (f.ts ≤ t)) = [] := by simp [h1]
        rw [e1, List.append_nil, if_neg (by rintro ⟨h, -⟩; exact h1 h), ih']
  have := key l.length (Nat.le_refl _)
  rw [List.take_length] at this
  exact this
theorem stR_any (l : List Fa) (c t id : Int) : anyI (stR l c t) id = isB (l.filter fun f => decide (f.ts ≤ t)) (c, id) := by
  have e : anyI (stR l c t) id = anyI (ovR [] (stW l c t)) id := by
    unfold anyI stR
    rw [List.any_map]
    rfl
  rw [e]
  unfold ovR
  rw [anyI_fold]
  exact stW_there l c t id
theorem pl_ref {σ : Sto} {m n : Nat} {v : V} {W : List Wr} (h : Pl σ m n 4 v (oL (W.map wrV))) (hW : W ≠ []) : ∃ i, v = .ref i 0 W.length 4 ∧ σ i = some (.row 4 (W.map wrV)) ∧ m ≤ i ∧ i < n := by
  cases W with
  | nil => exact absurd rfl hW
  | cons a b =>
    simp only [List.map_cons, oL, Pl] at h
    obtain ⟨i, rfl, h1, h2, h3⟩ := h
    exact ⟨i, by simp, h1, h2, h3⟩
theorem pl_len {σ : Sto} {m n : Nat} {v : V} {W : List Wr} (h : Pl σ m n 4 v (oL (W.map wrV))) : lenE v = some (.int .i64 (W.length : Int)) := by
  by_cases hW : W = []
  · subst hW; simp only [List.map_nil, oL, Pl] at h; subst h; rfl
  · obtain ⟨i, rfl, -⟩ := pl_ref h hW
    rw [lenE_ref]
theorem r32 (l : Option (List Fa)) (c t : Int) (h : FitF (lst l)) : res T 32 [slV 5 faV l, .int .i64 c, .int .u64 t] = some (slV 2 rwV (oL (stR (lst l) c t))) := by
  refine run_res (run_pure (fn := g32) rfl rfl (by decide) ?_)
  simp only [g32, b32, oO, oN, mV, lD, gO, pP, qQ, cI, aR]
  have hl := h.1
  simp +contextual -implicitDefEqProofs (maxSteps := 2000000) only [↓wP, wQ, wQ1, wQ2, wQ3, wR, boxE, partsOf, ↓reduceIte, n1w, n2w, n3w, n4w, n5w, n6w, reduceCtorEq, i1w, i2w, i3w, i4w, i5w]
  refine WC_for (lst l).length 0 (fun (j : Nat) env σ n => env 1 = .int .i64 c ∧ env 2 = .int .u64 t ∧ env 13 = slV 5 faV l ∧ ∃ v, env 7 = v ∧ Pl σ 0 n 4 v (oL ((stW ((lst l).take j) c t).map wrV))) (by omega) (by decide) (by decide) (fun _ _ => rfl) (fun _ _ _ => rfl) ?_ ?_ _ _ _ rfl rfl ?_
  · intro j env σ n hj e1 e2 ⟨g1, g2, g3, v, g4, g5⟩
    simp only [vl_tmp] at e2
    have hx : (lst l)[j]? = some (lst l)[j] := List.getElem?_eq_getElem hj
    have hst := stW_snoc ((lst l).take j) (lst l)[j] c t
    rw [List.take_append_getElem hj] at hst
    have hWl := stW_len (lst l) c t j
    generalize (lst l)[j] = f at *
    generalize stW ((lst l).take j) c t = W at *
    obtain ⟨σ1, hσ1⟩ : ∃ σ1, σ1 = upd (upd σ n (some (.row 5 [.agg [.int .u64 0, .int .i64 0, .int .u64 0, .bool false, .nilS]]))) n (some (.row 5 [.agg [.int .u64 f.ts, .int .i64 f.w.c, .int .u64 f.w.id, .bool f.w.g, slV 1 i32V f.w.v]])) := ⟨_, rfl⟩
    have so : ∀ i, i < n → σ1 i = σ i := fun i hi => by rw [hσ1, upd_ne (by omega), upd_ne (by omega)]
    have sn : σ1 n = some (.row 5 [.agg [.int .u64 f.ts, .int .i64 f.w.c, .int .u64 f.w.id, .bool f.w.g, slV 1 i32V f.w.v]]) := by rw [hσ1, upd_self]
    have g5' := g5.loc (σ' := σ1) (fun i a b => so i b) (Nat.le_refl _)
    by_cases h1 : t < f.ts
    · have e : stStep c t W f = W := by unfold stStep; rw [if_neg (by rintro ⟨h, -⟩; omega)]
      rw [e] at hst
      simp +contextual -implicitDefEqProofs (maxSteps := 2000000) only [↓wP, wQ, wQ1, wQ2, wQ3, wR, boxE, partsOf, ↓reduceIte, n1w, n2w, n3w, n4w, n5w, n6w, reduceCtorEq, i1w, i2w, i3w, i4w, i5w, e1, e2, g1, g2, g3, g4, hx, faV_eq, ← hσ1, sn, h1]
      rw [hst]
      exact ⟨_, rfl, g5'.loc (fun _ _ _ => rfl) (by omega)⟩
    · by_cases h2 : f.w.c = c
      · have h2' : (f.w.c != c) = false := by simp [h2]
        have e : stStep c t W f = W.filter (fun x => x.id != f.w.id) ++ [f.w] := by unfold stStep; rw [if_pos ⟨by omega, h2⟩]
        rw [e] at hst
        have hle := pl_len g5
        simp +contextual -implicitDefEqProofs (maxSteps := 2000000) only [↓wP, wQ, wQ1, wQ2, wQ3, wR, boxE, partsOf, ↓reduceIte, n1w, n2w, n3w, n4w, n5w, n6w, reduceCtorEq, i1w, i2w, i3w, i4w, i5w, e1, e2, g1, g2, g3, g4, hx, faV_eq, ← hσ1, sn, h1, h2', hle]
        refine WC_cutB (fun env σ' n' => env 1 = .int .i64 c ∧ env 2 = .int .u64 t ∧ env 13 = slV 5 faV l ∧ env 14 = .int .i64 ((lst l).length : Int) ∧ env 15 = .int .i64 (j : Int) ∧ env 9 = .ptr n 5 0 0 ∧ n + 1 ≤ n' ∧ σ' n = σ1 n ∧
          ∃ u, env 10 = u ∧ Pl σ' (n + 1) n' 4 u (oL ((W.filter fun x => x.id != f.w.id).map wrV))) ?_ ?_
        · refine WC_for W.length 0 (fun (k : Nat) env σ' n' => env 1 = .int .i64 c ∧ env 2 = .int .u64 t ∧ env 13 = slV 5 faV l ∧ env 14 = .int .i64 ((lst l).length : Int) ∧ env 15 = .int .i64 (j : Int) ∧ env 9 = .ptr n 5 0 0 ∧ env 30 = v ∧ n + 1 ≤ n' ∧ (∀ i, i < n + 1 → σ' i = σ1 i) ∧
            ∃ u, env 10 = u ∧ Pl σ' (n + 1) n' 4 u (oL (((W.take k).filter fun x => x.id != f.w.id).map wrV))) (by omega) (by decide) (by decide) (fun _ _ => rfl) (fun _ _ _ => rfl) ?_ ?_ _ _ _ rfl rfl ?_
          · clear e1 e2 g1 g2 g3 g4
            intro k env σ' n' hk e1 e2 ⟨g1, g2, g3, g4, g6, g7, g8, g9, g10, u, g11, g12⟩
            simp only [vl_tmp] at e2
            have hWne : W ≠ [] := by intro h'; rw [h'] at hk; simp at hk
            obtain ⟨i0, hv0, r1, -, r2⟩ := pl_ref g5 hWne
            have r1' : σ' i0 = some (.row 4 (W.map wrV)) := by rw [g10 i0 (by omega), so i0 r2]; exact r1
            have sn' : σ' n = some (.row 5 [.agg [.int .u64 f.ts, .int .i64 f.w.c, .int .u64 f.w.id, .bool f.w.g, slV 1 i32V f.w.v]]) := by rw [g10 n (by omega)]; exact sn
            subst hv0
            have htk : W.take (k + 1) = W.take k ++ [W[k]] := (List.take_append_getElem hk).symm
            obtain ⟨w, hw⟩ : ∃ w, w = W[k] := ⟨_, rfl⟩
            have hxk : (W.map wrV)[k]? = some (wrV w) := by rw [List.getElem?_map, List.getElem?_eq_getElem hk, hw]; rfl
            rw [← hw] at htk
            obtain ⟨σ2, hσ2⟩ : ∃ σ2, σ2 = upd (upd σ' n' (some (.row 4 [.agg [.int .i64 0, .int .u64 0, .bool false, .nilS]]))) n' (some (.row 4 [.agg [.int .i64 w.c, .int .u64 w.id, .bool w.g, slV 1 i32V w.v]])) := ⟨_, rfl⟩
            have so2 : ∀ i, i < n' → σ2 i = σ' i := fun i hi => by rw [hσ2, upd_ne (by omega), upd_ne (by omega)]
            have sn2 : σ2 n' = some (.row 4 [.agg [.int .i64 w.c, .int .u64 w.id, .bool w.g, slV 1 i32V w.v]]) := by rw [hσ2, upd_self]
            have sn3 : σ2 n = some (.row 5 [.agg [.int .u64 f.ts, .int .i64 f.w.c, .int .u64 f.w.id, .bool f.w.g, slV 1 i32V f.w.v]]) := by rw [so2 n (by omega)]; exact sn'
            have q0 : (n = n') = False := by simp; omega
            have hsp := spl g12
            have hc' := g12.cells
            by_cases hid : w.id = f.w.id
            · have hid' : (w.id != f.w.id) = false := by simp [hid]
              have hf : (W.take (k + 1)).filter (fun x => x.id != f.w.id) = (W.take k).filter (fun x => x.id != f.w.id) := by rw [htk, List.filter_append]; simp [hid]
              simp +contextual -implicitDefEqProofs (maxSteps := 2000000) only [↓wP, wQ, wQ1, wQ2, wQ3, wR, boxE, partsOf, ↓reduceIte, n1w, n2w, n3w, n4w, n5w, n6w, reduceCtorEq, i1w, i2w, i3w, i4w, i5w, e1, e2, g1, g2, g3, g4, g6, g7, g8, g11, r1', sn', hxk, hk, wrV_eq, ← hσ2, sn2, sn3, hid', q0]
              rw [hf]
              exact ⟨by omega, fun i hi => by rw [so2 i (by omega)]; exact g10 i hi, _, rfl, g12.loc (fun i a b => so2 i b) (by omega)⟩
            · have hid' : (w.id != f.w.id) = true := by simp [hid]
              have hf : (W.take (k + 1)).filter (fun x => x.id != f.w.id) = (W.take k).filter (fun x => x.id != f.w.id) ++ [w] := by rw [htk, List.filter_append]; simp [hid]
              have hlen : (((W.take k).filter fun x => x.id != f.w.id).map wrV).length ≤ k := by
                rw [List.length_map]
                have := List.length_filter_le (fun x : Wr => x.id != f.w.id) (W.take k)
                rw [List.length_take] at this; omega
              simp +contextual -implicitDefEqProofs (maxSteps := 2000000) only [↓wP, wQ, wQ1, wQ2, wQ3, wR, boxE, partsOf, ↓reduceIte, n1w, n2w, n3w, n4w, n5w, n6w, reduceCtorEq, i1w, i2w, i3w, i4w, i5w, e1, e2, g1, g2, g3, g4, g6, g7, g8, g11, r1', sn', hxk, hk, wrV_eq, ← hσ2, sn2, sn3, hid', q0]
              refine stepW_app1 (m := n + 1) (n0 := n') (σ0 := σ') g12 (fun i a1 a2 => ?_) (by omega) (by omega) (Nat.zero_le _) ?_ (fun _ σ3 a1 a2 => ?_)
              · rw [upd_ne (by omega), so2 i a2]
              · rw [lst_oL]; unfold LIM; omega
              · rw [lst_oL] at a1 ⊢
                have hv5 : ∀ i, i < n + 1 → ∀ off len s, u ≠ .ref i off len s := by
                  intro i hi off len s e
                  subst e
                  cases ho' : oL (((W.take k).filter fun x => x.id != f.w.id).map wrV) with
                  | none => rw [ho'] at g12; simp only [Pl] at g12; cases g12
                  | some xs => rw [ho'] at g12; obtain ⟨j, e, -, e2, -⟩ := g12; simp only [V.ref.injEq] at e; omega
                simp +contextual -implicitDefEqProofs (maxSteps := 2000000) only [↓wP, wQ, wQ1, wQ2, wQ3, wR, boxE, partsOf, ↓reduceIte, n1w, n2w, n3w, n4w, n5w, n6w, reduceCtorEq, i1w, i2w, i3w, i4w, i5w, e1, e2, g1, g2, g3, g4, g6, g7, g8, hc', hsp]
                refine ⟨by omega, fun i hi => by rw [a2 i (by omega) (hv5 i hi), upd_ne (by omega), so2 i (by omega)]; exact g10 i hi, _, rfl, ?_⟩
                rw [hf, List.map_append]
                have e3 : oL (((W.take k).filter fun x => x.id != f.w.id).map wrV ++ [w].map wrV) = some (((W.take k).filter fun x => x.id != f.w.id).map wrV ++ [.agg [.int .i64 w.c, .int .u64 w.id, .bool w.g, slV 1 i32V w.v]]) := by
                  cases (W.take k).filter fun x => x.id != f.w.id <;> rfl
                rw [e3]
                exact a1
          · clear e1 e2 g1 g2 g3 g4
            intro env σ' n' ⟨g1, g2, g3, g4, g6, g7, g8, g9, g10, u, g11, g12⟩ e1 e2
            rw [List.take_length] at g12
            exact ⟨rfl, rfl, g1, g2, g3, g4, g6, g7, g9, g10 n (by omega), u, g11, g12⟩
          · simp +contextual -implicitDefEqProofs (maxSteps := 2000000) only [↓wP, wQ, wQ1, wQ2, wQ3, wR, boxE, partsOf, ↓reduceIte, n1w, n2w, n3w, n4w, n5w, n6w, reduceCtorEq, i1w, i2w, i3w, i4w, i5w, e1, e2, g1, g2, g3]
            simp [oL, Pl]
        · clear e1 e2 g1 g2 g3 g4
          intro env σ' n' ⟨g1, g2, g3, g4, g6, g7, g8, g9, u, g11, g12⟩
          rw [sn] at g9
          have hsp := spl g12
          have hc' := g12.cells
          have hlen : ((W.filter fun x => x.id != f.w.id).map wrV).length ≤ W.length := by
            rw [List.length_map]; exact List.length_filter_le _ _
          simp +contextual -implicitDefEqProofs (maxSteps := 2000000) only [↓wP, wQ, wQ1, wQ2, wQ3, wR, boxE, partsOf, ↓reduceIte, n1w, n2w, n3w, n4w, n5w, n6w, reduceCtorEq, i1w, i2w, i3w, i4w, i5w, g1, g2, g3, g4, g6, g7, g9, g11]
          refine stepW_app1 (m := n + 1) (n0 := n') (σ0 := σ') g12 (fun i a1 a2 => ?_) (by omega) (by omega) (Nat.zero_le _) ?_ (fun _ σ3 a1 a2 => ?_)
          · rw [upd_ne (by omega)]
          · rw [lst_oL]; unfold LIM; omega
          · rw [lst_oL] at a1 ⊢
            simp +contextual -implicitDefEqProofs (maxSteps := 2000000) only [↓wP, wQ, wQ1, wQ2, wQ3, wR, boxE, partsOf, ↓reduceIte, n1w, n2w, n3w, n4w, n5w, n6w, reduceCtorEq, i1w, i2w, i3w, i4w, i5w, g1, g2, g3, g4, g6, hc', hsp]
            refine ⟨_, rfl, ?_⟩
            rw [hst, List.map_append]
            have e3 : oL ((W.filter fun x => x.id != f.w.id).map wrV ++ [f.w].map wrV) = some ((W.filter fun x => x.id != f.w.id).map wrV ++ [.agg [.int .i64 f.w.c, .int .u64 f.w.id, .bool f.w.g, slV 1 i32V f.w.v]]) := by
              cases W.filter fun x => x.id != f.w.id <;> rfl
            rw [e3]
            obtain ⟨i, b1, b2, -, b4⟩ := a1
            exact ⟨i, b1, b2, Nat.zero_le _, b4⟩
      · have h2' : (f.w.c != c) = true := by simp [h2]
        have e : stStep c t W f = W := by unfold stStep; rw [if_neg (by rintro ⟨-, h⟩; exact h2 h)]
        rw [e] at hst
        simp +contextual -implicitDefEqProofs (maxSteps := 2000000) only [↓wP, wQ, wQ1, wQ2, wQ3, wR, boxE, partsOf, ↓reduceIte, n1w, n2w, n3w, n4w, n5w, n6w, reduceCtorEq, i1w, i2w, i3w, i4w, i5w, e1, e2, g1, g2, g3, g4, hx, faV_eq, ← hσ1, sn, h1, h2']
        rw [hst]
        exact ⟨_, rfl, g5'.loc (fun _ _ _ => rfl) (by omega)⟩
  · intro env σ n ⟨g1, g2, g3, v, g4, g5⟩ e1 e2
    rw [List.take_length] at g5
    have hmem := stW_mem (lst l) c t
    have hWl := stW_len (lst l) c t (lst l).length
    rw [List.take_length] at hWl
    obtain ⟨W, hW⟩ : ∃ W, W = stW (lst l) c t := ⟨_, rfl⟩
    have hr : stR (lst l) c t = (ovR [] W).map cpR := by rw [hW]; rfl
    rw [← hW] at g5 hmem hWl
    have hf := g5.frz (by rw [lst_oL]; exact wr_fz.1) (by rw [lst_oL]; exact wr_fz.2)
    rw [slV_oL] at hf
    have r := r68 (oL W) c none (by rw [lst_oL]; exact ⟨by omega, fun w hw => by obtain ⟨-, f, hf, rfl⟩ := hmem w hw; exact h.2 f hf⟩) ⟨by simp [lst], fun r hr => by simp [lst] at hr⟩
    rw [lst_oL] at r
    have hfl : W.filter (fun w => w.c == c) = W := by
      rw [List.filter_eq_self]
      intro w hw
      simp [(hmem w hw).1]
    rw [hfl] at r
    have e : [v, V.int .i64 c, V.nilS].mapM (frz σ 12) = some [slV 4 wrV (oL W), .int .i64 c, slV 2 rwV none] := by simp only [List.mapM_cons, List.mapM_nil, hf]; rfl
    obtain ⟨σ', f68'⟩ := callE_sh (by decide) e r (fun σ n => by rw [thaw_slV]) n
    simp +contextual -implicitDefEqProofs (maxSteps := 2000000) only [↓wP, wQ, wQ1, wQ2, wQ3, wR, boxE, partsOf, ↓reduceIte, n1w, n2w, n3w, n4w, n5w, n6w, reduceCtorEq, i1w, i2w, i3w, i4w, i5w, g1, g4, f68']
    rw [hr]; rfl
  · simp +contextual -implicitDefEqProofs (maxSteps := 2000000) only [↓wP, wQ, wQ1, wQ2, wQ3, wR, boxE, partsOf, ↓reduceIte, n1w, n2w, n3w, n4w, n5w, n6w, reduceCtorEq, i1w, i2w, i3w, i4w, i5w]
    simp [stW, oL, Pl]
theorem f32 (l : Option (List Fa)) (c t : Int) (h : FitF (lst l)) (fs : Bool) (σ : Sto) (n lk : Nat) : callE T fs 32 [slV 5 faV l, .int .i64 c, .int .u64 t] σ n lk = some (slV 2 rwV (oL (stR (lst l) c t)), σ, n) :=
  callE_tr (by decide) (r32 l c t h) (by simp [Tr, Tr_slV]) (Nw_slV _ _ _ _) fs σ n lk
theorem stR_len (l : List Fa) (c t : Int) : (stR l c t).length ≤ l.length := by
  unfold stR
  rw [List.length_map]
  have h1 := ovR_len [] (stW l c t)
  have h2 := stW_len l c t l.length
  rw [List.take_length] at h2
  simp only [List.length_nil] at h1; omega
def thB (l : List Fa) (c id t : Int) : Bool := isB (l.filter fun f => decide (f.ts ≤ t)) (c, id)
theorem r51 (l : Option (List Fa)) (c id t : Int) (h : FitF (lst l)) : res T 51 [slV 5 faV l, .int .i64 c, .int .u64 id, .int .u64 t] = some (.bool (thB (lst l) c id t)) := by
  refine run_res (run_pure (fn := g51) rfl rfl (by decide) ?_)
  simp only [g51, b51, oO, oN, mV, lD, gO, pP, qQ, cI, aR]
  have f := f32 l c t h
  have hl := stR_len (lst l) c t
  have hl2 := h.1
  have ha := stR_any (lst l) c t id
  obtain ⟨R, hR⟩ : ∃ R, R = stR (lst l) c t := ⟨_, rfl⟩
  have hb : thB (lst l) c id t = anyI R id := by rw [hR, ha]; rfl
  rw [← hR] at f hl
  rw [hb]
  unfold anyI
  simp +contextual -implicitDefEqProofs (maxSteps := 2000000) only [↓wP, wQ, wQ1, wQ2, wQ3, wR, boxE, partsOf, ↓reduceIte, n1w, n2w, n3w, n4w, n5w, n6w, reduceCtorEq, i1w, i2w, i3w, i4w, i5w, f]
  refine WC_for (lst (oL R)).length 0 (fun (j : Nat) env σ n => env 2 = .int .u64 id ∧ env 14 = slV 2 rwV (oL R) ∧ (R.any fun r => r.id == id) = ((R.drop j).any fun r => r.id == id)) (by rw [lst_oL]; omega) (by decide) (by decide) (fun _ _ => rfl) (fun _ _ _ => rfl) ?_ ?_ _ _ _ rfl rfl ?_
  · intro j env σ n hj h1 h2 ⟨g1, g2, g3⟩
    rw [lst_oL] at hj
    simp only [vl_tmp] at h2
    have hx : (lst (oL R))[j]? = some R[j] := by rw [lst_oL]; exact List.getElem?_eq_getElem hj
    rw [List.drop_eq_getElem_cons hj, List.any_cons] at g3
    generalize R[j] = x at *
    cases hk : (x.id == id)
    · rw [hk, Bool.false_or] at g3
      simp +contextual -implicitDefEqProofs (maxSteps := 2000000) only [↓wP, wQ, wQ1, wQ2, wQ3, wR, boxE, partsOf, ↓reduceIte, n1w, n2w, n3w, n4w, n5w, n6w, reduceCtorEq, i1w, i2w, i3w, i4w, i5w, h1, h2, g1, g2, hx, rwV_eq, hk]
      exact g3
    · rw [hk, Bool.true_or] at g3
      simp +contextual -implicitDefEqProofs (maxSteps := 2000000) only [↓wP, wQ, wQ1, wQ2, wQ3, wR, boxE, partsOf, ↓reduceIte, n1w, n2w, n3w, n4w, n5w, n6w, reduceCtorEq, i1w, i2w, i3w, i4w, i5w, h1, h2, g1, g2, hx, rwV_eq, hk]
      rw [g3]
  · intro env σ n ⟨g1, g2, g3⟩ h1 h2
    rw [lst_oL, List.drop_length] at g3
    simp +contextual -implicitDefEqProofs (maxSteps := 2000000) only [↓wP, wQ, wQ1, wQ2, wQ3, wR, boxE, partsOf, ↓reduceIte, n1w, n2w, n3w, n4w, n5w, n6w, reduceCtorEq, i1w, i2w, i3w, i4w, i5w]
    rw [g3]; rfl
  · simp +contextual -implicitDefEqProofs (maxSteps := 2000000) only [↓wP, wQ, wQ1, wQ2, wQ3, wR, boxE, partsOf, ↓reduceIte, n1w, n2w, n3w, n4w, n5w, n6w, reduceCtorEq, i1w, i2w, i3w, i4w, i5w]
theorem f51 (l : Option (List Fa)) (c id t : Int) (h : FitF (lst l)) (fs : Bool) (σ : Sto) (n lk : Nat) : callE T fs 51 [slV 5 faV l, .int .i64 c, .int .u64 id, .int .u64 t] σ n lk = some (.bool (thB (lst l) c id t), σ, n) :=
  callE_tr (by decide) (r51 l c id t h) (by simp [Tr, Tr_slV]) rfl fs σ n lk
end Go.Q.SB
end

section
/- Which facts may be: the program's check. -/
set_option linter.unusedSimpArgs false
set_option linter.unusedVariables false
namespace Go.Q.SB
open Go.Q
open Nat renaming reduceEqDiff → n1w, reduceAdd → n2w, reduceSub → n3w, reduceLeDiff → n4w, reduceLT → n5w, reduceMul → n6w
open Int renaming reduceBNe → i1w, reduceBEq → i2w, reduceLT → i3w, reduceLE → i4w, reduceGT → i5w
def bV (b : Bool) : V := .bool b
theorem keyK : KeyOk (.agg [.int, .int]) kyV := by
  intro a b
  obtain ⟨a1, a2⟩ := a
  obtain ⟨b1, b2⟩ := b
  simp only [kyV, eqKey, eqCells, eqCell, Option.bind_some, Prod.mk.injEq]
  by_cases h1 : a1 = b1 <;> by_cases h2 : a2 = b2 <;> simp [h1, h2]
theorem okU_no {l : List Fa} {n : Nat} (h : okU l n = false) : ∀ m, n ≤ m → okU l m = false
  | 0, hm => by have : n = 0 := by omega
                subst this; cases h
  | m + 1, hm => by
    by_cases e : n = m + 1
    · subst e; exact h
    · show (okU l m && _) = false
      rw [okU_no h m (by omega)]; rfl
theorem okU_eq {l : List Fa} {n : Nat} (hn : n < l.length) : okU l (n + 1) = (okU l n && oneF l n l[n]) := by
  show (okU l n && _) = _
  rw [List.getElem?_eq_getElem hn]
theorem r24 (l : Option (List Fa)) (h : SmF l) : res T 24 [slV 5 faV l] = some (.int .i64 (if rightF (lst l) then 0 else 280)) := by
  refine run_res (run_pure (fn := g24) rfl rfl (by decide) ?_)
  simp only [g24, b24, oO, oN, mV, lD, gO, pP, qQ, cI, aR]
  have hl := h.1
  obtain ⟨A, hA⟩ : ∃ A, A = decide ((lst l).length ≤ 2000) := ⟨_, rfl⟩
  have hA' : decide (((lst l).length : Int) ≤ 2000) = A := by rw [hA]; exact decide_eq_decide.2 (by omega)
  have f49' := f49 l h
  simp +contextual -implicitDefEqProofs (maxSteps := 2000000) only [↓wP, wQ, wQ1, wQ2, wQ3, wR, boxE, partsOf, ↓reduceIte, n1w, n2w, n3w, n4w, n5w, n6w, reduceCtorEq, i1w, i2w, i3w, i4w, i5w, hA']
  refine WC_for (lst l).length 0 (fun (j : Nat) env σ n => env 0 = slV 5 faV l ∧ env 12 = slV 5 faV l ∧ env 3 = .bool A ∧ env 4 = .mp 0 ∧ 1 ≤ n ∧ okU (lst l) j = true ∧ ∃ Lm clk, MOk Lm clk ∧ σ 0 = some (.map (ens kyV bV Lm) clk) ∧ ∀ k, (vw Lm k).getD false = isB ((lst l).take j) k) (by omega) (by decide) (by decide) (fun _ _ => rfl) (fun _ _ _ => rfl) ?_ ?_ _ _ _ rfl rfl ?_
  · intro j env σ n hj h1 h2 ⟨g1, g2, g3, g4, g5, g6, Lm, clk, m1, m2, m3⟩
    simp only [vl_tmp] at h2
    have hx : (lst l)[j]? = some (lst l)[j] := List.getElem?_eq_getElem hj
    have hst := okU_eq hj
    rw [g6, Bool.true_and] at hst
    have hds := isB_snoc ((lst l).take j) (lst l)[j]
    rw [List.take_append_getElem hj] at hds
    have hno : oneF (lst l) j (lst l)[j] = false → rightF (lst l) = false := fun hk => by
      unfold rightF
      rw [okU_no (by rw [hst, hk]) _ (by omega : j + 1 ≤ (lst l).length)]
      simp
    have hsm := h.2 _ (List.getElem_mem hj)
    generalize (lst l)[j] = x at *
    cases hAb : A
    · have hr : rightF (lst l) = false := by unfold rightF; rw [← hA, hAb]; rfl
      rw [hAb] at g3
      simp +contextual -implicitDefEqProofs (maxSteps := 2000000) only [↓wP, wQ, wQ1, wQ2, wQ3, wR, boxE, partsOf, ↓reduceIte, n1w, n2w, n3w, n4w, n5w, n6w, reduceCtorEq, i1w, i2w, i3w, i4w, i5w, h1, h2, g1, g2, g3, g4, hx, faV_eq]
      rw [hr]; rfl
    rw [hAb] at g3
    by_cases b1 : (1 : Int) ≤ x.ts
    rotate_left
    · have hk := hno (by unfold oneF one1; simp [b1])
      simp +contextual -implicitDefEqProofs (maxSteps := 2000000) only [↓wP, wQ, wQ1, wQ2, wQ3, wR, boxE, partsOf, ↓reduceIte, n1w, n2w, n3w, n4w, n5w, n6w, reduceCtorEq, i1w, i2w, i3w, i4w, i5w, h1, h2, g1, g2, g3, g4, hx, faV_eq, b1]
      rw [hk]; rfl
    by_cases b2 : x.ts ≤ 1099511627776
    rotate_left
    · have hk := hno (by unfold oneF one1; simp [b2])
      simp +contextual -implicitDefEqProofs (maxSteps := 2000000) only [↓wP, wQ, wQ1, wQ2, wQ3, wR, boxE, partsOf, ↓reduceIte, n1w, n2w, n3w, n4w, n5w, n6w, reduceCtorEq, i1w, i2w, i3w, i4w, i5w, h1, h2, g1, g2, g3, g4, hx, faV_eq, b1, b2]
      rw [hk]; rfl
    have r1 := r62 (some [x.w]) ⟨by show 1 < _; decide, fun w hw => by rw [lst_some, List.mem_singleton] at hw; subst hw; exact hsm⟩
    rw [lst_some, right1] at r1
    rw [show slV 4 wrV (some [x.w]) = V.sl 4 [wrV x.w] from rfl, wrV_eq] at r1
    have hm62 : T.mode 62 ≠ .raw := by decide
    by_cases b3 : okW x.w = true
    rotate_left
    · have b3' : okW x.w = false := by simpa using b3
      have hk := hno (by unfold oneF one1; simp [b3'])
      rw [b3'] at r1
      simp +contextual -implicitDefEqProofs (maxSteps := 2000000) only [↓wP, wQ, wQ1, wQ2, wQ3, wR, boxE, partsOf, ↓reduceIte, n1w, n2w, n3w, n4w, n5w, n6w, reduceCtorEq, i1w, i2w, i3w, i4w, i5w, h1, h2, g1, g2, g3, g4, hx, faV_eq, b1, b2, callE_eq hm62, frz_rf, rch_rf, r1]
      rw [hk]; rfl
    rw [b3] at r1
    obtain ⟨P, hP⟩ : ∃ P, P = one1 (lst l) j x := ⟨_, rfl⟩
    have hone : oneF (lst l) j x = (P && (!x.w.g || isB ((lst l).take j) (key x.w))) := by rw [hP]; rfl
    obtain ⟨σ1, hσ1⟩ : ∃ σ1, σ1 = upd (upd (upd σ n (some (.row 5 [.agg [.int .u64 0, .int .i64 0, .int .u64 0, .bool false, .nilS]]))) n (some (.row 5 [.agg [.int .u64 x.ts, .int .i64 x.w.c, .int .u64 x.w.id, .bool x.w.g, slV 1 i32V x.w.v]]))) (n + 1) (some (.row 4 [.agg [.int .i64 x.w.c, .int .u64 x.w.id, .bool x.w.g, slV 1 i32V x.w.v]])) := ⟨_, rfl⟩
    have so : ∀ i, i < n → σ1 i = σ i := fun i hi => by rw [hσ1, upd_ne (by omega), upd_ne (by omega), upd_ne (by omega)]
    have sn : σ1 n = some (.row 5 [.agg [.int .u64 x.ts, .int .i64 x.w.c, .int .u64 x.w.id, .bool x.w.g, slV 1 i32V x.w.v]]) := by rw [hσ1, upd_ne (by omega), upd_self]
    have sn1 : σ1 (n + 1) = some (.row 4 [.agg [.int .i64 x.w.c, .int .u64 x.w.id, .bool x.w.g, slV 1 i32V x.w.v]]) := by rw [hσ1, upd_self]
    by_cases hj0 : j = 0
    · have hz : ¬ ((0 : Int) < (j : Int)) := by omega
      have hPt : P = true := by rw [hP]; unfold one1; subst hj0; simp [b1, b2, b3]
      have snx := sn
      have q0 : (0 = n) = False := by simp; omega
      have s0 : σ1 0 = some (.map (ens kyV bV Lm) clk) := by rw [so 0 (by omega)]; exact m2
      have pu := mupd_ens (ke := kyV) (ve := bV) (lk := 0) keyK m1 s0 (Nat.zero_le _) (key x.w) (!x.w.g) (n + 2)
      have hmg : mgetE false (.agg [.int, .int]) (.bool false) (some (ens kyV bV Lm)) (kyV (key x.w)) = some (.bool (isB ((lst l).take j) (key x.w))) := by
        rw [mget_ens (ve := bV) keyK false (.bool false) (key x.w) Lm, ← m3 (key x.w)]
        cases vw Lm (key x.w) <;> rfl
      have fk := f47 x.w
      rw [wrV_eq] at fk
      have hnew : ∀ k, (vw (mput Lm clk (key x.w) (!x.w.g)).1 k).getD false = isB ((lst l).take (j + 1)) k := by
        intro k
        rw [vw_mput, hds]
        by_cases e : k = key x.w
        · rw [if_pos e, if_pos e.symm]; rfl
        · rw [if_neg e, if_neg (fun h => e h.symm)]; exact m3 k
      simp only [bV] at pu
      cases hg : x.w.g
      all_goals rw [hg] at r1 hσ1 pu fk sn sn1 snx hnew hone
      all_goals simp only [Bool.not_false, Bool.not_true] at pu hnew
      · simp +contextual -implicitDefEqProofs (maxSteps := 2000000) only [↓wP, wQ, wQ1, wQ2, wQ3, wR, boxE, partsOf, ↓reduceIte, n1w, n2w, n3w, n4w, n5w, n6w, reduceCtorEq, i1w, i2w, i3w, i4w, i5w, h1, h2, g1, g2, g3, g4, hx, faV_eq, b1, b2, callE_eq hm62, frz_rf, rch_rf, r1, hz, ← hσ1, sn, sn1, q0, s0, hg, pu, fk, hmg]
        exact ⟨by rw [hst, hone, hPt]; rfl, _, _, mput_ok m1 _ _, rfl, hnew⟩
      · cases hb : isB ((lst l).take j) (key x.w)
        all_goals rw [hb] at hmg hone
        · have hk := hno (by rw [hone, hPt]; rfl)
          simp +contextual -implicitDefEqProofs (maxSteps := 2000000) only [↓wP, wQ, wQ1, wQ2, wQ3, wR, boxE, partsOf, ↓reduceIte, n1w, n2w, n3w, n4w, n5w, n6w, reduceCtorEq, i1w, i2w, i3w, i4w, i5w, h1, h2, g1, g2, g3, g4, hx, faV_eq, b1, b2, callE_eq hm62, frz_rf, rch_rf, r1, hz, ← hσ1, sn, sn1, q0, s0, hg, fk, hmg]
          rw [hk]; rfl
        · simp +contextual -implicitDefEqProofs (maxSteps := 2000000) only [↓wP, wQ, wQ1, wQ2, wQ3, wR, boxE, partsOf, ↓reduceIte, n1w, n2w, n3w, n4w, n5w, n6w, reduceCtorEq, i1w, i2w, i3w, i4w, i5w, h1, h2, g1, g2, g3, g4, hx, faV_eq, b1, b2, callE_eq hm62, frz_rf, rch_rf, r1, hz, ← hσ1, sn, sn1, q0, s0, hg, pu, fk, hmg]
          exact ⟨by rw [hst, hone, hPt]; rfl, _, _, mput_ok m1 _ _, rfl, hnew⟩
    · have hz : (0 : Int) < (j : Int) := by omega
      have wj : IntKind.i64.wrap ((j : Int) - 1) = ((j - 1 : Nat) : Int) := by rw [wrap_i64] <;> omega
      have hx2 : (lst l)[j - 1]? = some (lst l)[j - 1] := List.getElem?_eq_getElem (by omega)
      have hsp := h.2 _ (List.getElem_mem (show j - 1 < (lst l).length by omega))
      obtain ⟨p, hp⟩ : ∃ p, p = (lst l)[j - 1] := ⟨_, rfl⟩
      rw [← hp] at hx2 hsp
      have hPm : P = aft p x := by
        obtain ⟨i, rfl⟩ : ∃ i, j = i + 1 := ⟨j - 1, by omega⟩
        rw [hP]; unfold one1
        rw [show i + 1 - 1 = i from rfl] at hx2
        simp [hx2, b1, b2, b3]
      obtain ⟨σ2, hσ2⟩ : ∃ σ2, σ2 = upd (upd σ1 (n + 2) (some (.row 5 [.agg [.int .u64 0, .int .i64 0, .int .u64 0, .bool false, .nilS]]))) (n + 2) (some (.row 5 [.agg [.int .u64 p.ts, .int .i64 p.w.c, .int .u64 p.w.id, .bool p.w.g, slV 1 i32V p.w.v]])) := ⟨_, rfl⟩
      have so' : ∀ i, i < n → σ2 i = σ i := fun i hi => by rw [hσ2, upd_ne (by omega), upd_ne (by omega), so i hi]
      have snx : σ2 n = some (.row 5 [.agg [.int .u64 x.ts, .int .i64 x.w.c, .int .u64 x.w.id, .bool x.w.g, slV 1 i32V x.w.v]]) := by rw [hσ2, upd_ne (by omega), upd_ne (by omega)]; exact sn
      have snp : σ2 (n + 2) = some (.row 5 [.agg [.int .u64 p.ts, .int .i64 p.w.c, .int .u64 p.w.id, .bool p.w.g, slV 1 i32V p.w.v]]) := by rw [hσ2, upd_self]
      have q0 : (0 = n) = False := by simp; omega
      by_cases k1 : p.ts < x.ts
      · have hPt : P = true := by rw [hPm]; unfold aft; simp [k1]
        have so := so'
        have s0 : σ2 0 = some (.map (ens kyV bV Lm) clk) := by rw [so 0 (by omega)]; exact m2
        have pu := mupd_ens (ke := kyV) (ve := bV) (lk := 0) keyK m1 s0 (Nat.zero_le _) (key x.w) (!x.w.g) (n + 3)
        have hmg : mgetE false (.agg [.int, .int]) (.bool false) (some (ens kyV bV Lm)) (kyV (key x.w)) = some (.bool (isB ((lst l).take j) (key x.w))) := by
          rw [mget_ens (ve := bV) keyK false (.bool false) (key x.w) Lm, ← m3 (key x.w)]
          cases vw Lm (key x.w) <;> rfl
        have fk := f47 x.w
        rw [wrV_eq] at fk
        have hnew : ∀ k, (vw (mput Lm clk (key x.w) (!x.w.g)).1 k).getD false = isB ((lst l).take (j + 1)) k := by
          intro k
          rw [vw_mput, hds]
          by_cases e : k = key x.w
          · rw [if_pos e, if_pos e.symm]; rfl
          · rw [if_neg e, if_neg (fun h => e h.symm)]; exact m3 k
        simp only [bV] at pu
        cases hg : x.w.g
        all_goals rw [hg] at r1 hσ1 pu fk sn sn1 snx hnew hone
        all_goals simp only [Bool.not_false, Bool.not_true] at pu hnew
        · simp +contextual -implicitDefEqProofs (maxSteps := 2000000) only [↓wP, wQ, wQ1, wQ2, wQ3, wR, boxE, partsOf, ↓reduceIte, n1w, n2w, n3w, n4w, n5w, n6w, reduceCtorEq, i1w, i2w, i3w, i4w, i5w, h1, h2, g1, g2, g3, g4, hx, faV_eq, b1, b2, callE_eq hm62, frz_rf, rch_rf, r1, hz, wj, hx2, ← hσ1, sn, sn1, ← hσ2, snx, snp, q0, k1, s0, hg, pu, fk, hmg]
          exact ⟨by rw [hst, hone, hPt]; rfl, _, _, mput_ok m1 _ _, rfl, hnew⟩
        · cases hb : isB ((lst l).take j) (key x.w)
          all_goals rw [hb] at hmg hone
          · have hk := hno (by rw [hone, hPt]; rfl)
            simp +contextual -implicitDefEqProofs (maxSteps := 2000000) only [↓wP, wQ, wQ1, wQ2, wQ3, wR, boxE, partsOf, ↓reduceIte, n1w, n2w, n3w, n4w, n5w, n6w, reduceCtorEq, i1w, i2w, i3w, i4w, i5w, h1, h2, g1, g2, g3, g4, hx, faV_eq, b1, b2, callE_eq hm62, frz_rf, rch_rf, r1, hz, wj, hx2, ← hσ1, sn, sn1, ← hσ2, snx, snp, q0, k1, s0, hg, fk, hmg]
            rw [hk]; rfl
          · simp +contextual -implicitDefEqProofs (maxSteps := 2000000) only [↓wP, wQ, wQ1, wQ2, wQ3, wR, boxE, partsOf, ↓reduceIte, n1w, n2w, n3w, n4w, n5w, n6w, reduceCtorEq, i1w, i2w, i3w, i4w, i5w, h1, h2, g1, g2, g3, g4, hx, faV_eq, b1, b2, callE_eq hm62, frz_rf, rch_rf, r1, hz, wj, hx2, ← hσ1, sn, sn1, ← hσ2, snx, snp, q0, k1, s0, hg, pu, fk, hmg]
            exact ⟨by rw [hst, hone, hPt]; rfl, _, _, mput_ok m1 _ _, rfl, hnew⟩
      · by_cases k2 : p.ts = x.ts
        rotate_left
        · have k2' : (p.ts == x.ts) = false := by simp [k2]
          have hk := hno (by rw [hone, hPm]; unfold aft; simp [k1, k2])
          simp +contextual -implicitDefEqProofs (maxSteps := 2000000) only [↓wP, wQ, wQ1, wQ2, wQ3, wR, boxE, partsOf, ↓reduceIte, n1w, n2w, n3w, n4w, n5w, n6w, reduceCtorEq, i1w, i2w, i3w, i4w, i5w, h1, h2, g1, g2, g3, g4, hx, faV_eq, b1, b2, callE_eq hm62, frz_rf, rch_rf, r1, hz, wj, hx2, ← hσ1, sn, sn1, ← hσ2, snx, snp, q0, k1, k2']
          rw [hk]; rfl
        have k2' : (p.ts == x.ts) = true := by simp [k2]
        have r2 := r62 (some [p.w, x.w]) ⟨by show 2 < _; decide, fun w hw => by
          rw [lst_some] at hw
          rcases List.mem_cons.1 hw with rfl | hw
          · exact hsp
          · rw [List.mem_singleton] at hw; subst hw; exact hsm⟩
        rw [lst_some, right2, b3, Bool.true_and] at r2
        rw [show slV 4 wrV (some [p.w, x.w]) = V.sl 4 [wrV p.w, wrV x.w] from rfl, wrV_eq, wrV_eq] at r2
        have hPa : P = (okW p.w && bef p.w x.w) := by rw [hPm]; unfold aft; simp [k1, k2, b3]
        rw [← hPa] at r2
        obtain ⟨σ3, hσ3⟩ : ∃ σ3, σ3 = upd σ2 (n + 3) (some (.row 4 [.agg [.int .i64 p.w.c, .int .u64 p.w.id, .bool p.w.g, slV 1 i32V p.w.v], .agg [.int .i64 x.w.c, .int .u64 x.w.id, .bool x.w.g, slV 1 i32V x.w.v]])) := ⟨_, rfl⟩
        have so'' : ∀ i, i < n → σ3 i = σ i := fun i hi => by rw [hσ3, upd_ne (by omega), so' i hi]
        have snx' : σ3 n = some (.row 5 [.agg [.int .u64 x.ts, .int .i64 x.w.c, .int .u64 x.w.id, .bool x.w.g, slV 1 i32V x.w.v]]) := by rw [hσ3, upd_ne (by omega)]; exact snx
        have sn3 : σ3 (n + 3) = some (.row 4 [.agg [.int .i64 p.w.c, .int .u64 p.w.id, .bool p.w.g, slV 1 i32V p.w.v], .agg [.int .i64 x.w.c, .int .u64 x.w.id, .bool x.w.g, slV 1 i32V x.w.v]]) := by rw [hσ3, upd_self]
        cases hPt : P
        · have hk := hno (by rw [hone, hPt]; rfl)
          rw [hPt] at r2
          simp +contextual -implicitDefEqProofs (maxSteps := 2000000) only [↓wP, wQ, wQ1, wQ2, wQ3, wR, boxE, partsOf, ↓reduceIte, n1w, n2w, n3w, n4w, n5w, n6w, reduceCtorEq, i1w, i2w, i3w, i4w, i5w, h1, h2, g1, g2, g3, g4, hx, faV_eq, b1, b2, callE_eq hm62, frz_rf, rch_rf, r1, hz, wj, hx2, ← hσ1, sn, sn1, ← hσ2, snx, snp, q0, k1, k2', ← hσ3, snx', sn3, r2]
          rw [hk]; rfl
        rw [hPt] at r2
        have so := so''
        have s0 : σ3 0 = some (.map (ens kyV bV Lm) clk) := by rw [so 0 (by omega)]; exact m2
        have pu := mupd_ens (ke := kyV) (ve := bV) (lk := 0) keyK m1 s0 (Nat.zero_le _) (key x.w) (!x.w.g) (n + 4)
        have hmg : mgetE false (.agg [.int, .int]) (.bool false) (some (ens kyV bV Lm)) (kyV (key x.w)) = some (.bool (isB ((lst l).take j) (key x.w))) := by
          rw [mget_ens (ve := bV) keyK false (.bool false) (key x.w) Lm, ← m3 (key x.w)]
          cases vw Lm (key x.w) <;> rfl
        have fk := f47 x.w
        rw [wrV_eq] at fk
        have hnew : ∀ k, (vw (mput Lm clk (key x.w) (!x.w.g)).1 k).getD false = isB ((lst l).take (j + 1)) k := by
          intro k
          rw [vw_mput, hds]
          by_cases e : k = key x.w
          · rw [if_pos e, if_pos e.symm]; rfl
          · rw [if_neg e, if_neg (fun h => e h.symm)]; exact m3 k
        simp only [bV] at pu
        cases hg : x.w.g
        all_goals rw [hg] at r1 hσ1 r2 hσ3 sn sn1 snx snx' sn3 pu fk hnew hone
        all_goals simp only [Bool.not_false, Bool.not_true] at pu hnew
        · simp +contextual -implicitDefEqProofs (maxSteps := 2000000) only [↓wP, wQ, wQ1, wQ2, wQ3, wR, boxE, partsOf, ↓reduceIte, n1w, n2w, n3w, n4w, n5w, n6w, reduceCtorEq, i1w, i2w, i3w, i4w, i5w, h1, h2, g1, g2, g3, g4, hx, faV_eq, b1, b2, callE_eq hm62, frz_rf, rch_rf, r1, hz, wj, hx2, ← hσ1, sn, sn1, ← hσ2, snx, snp, q0, k1, k2', ← hσ3, snx', sn3, r2, s0, hg, pu, fk, hmg]
          exact ⟨by rw [hst, hone, hPt]; rfl, _, _, mput_ok m1 _ _, rfl, hnew⟩
        · cases hb : isB ((lst l).take j) (key x.w)
          all_goals rw [hb] at hmg hone
          · have hk := hno (by rw [hone, hPt]; rfl)
            simp +contextual -implicitDefEqProofs (maxSteps := 2000000) only [↓wP, wQ, wQ1, wQ2, wQ3, wR, boxE, partsOf, ↓reduceIte, n1w, n2w, n3w, n4w, n5w, n6w, reduceCtorEq, i1w, i2w, i3w, i4w, i5w, h1, h2, g1, g2, g3, g4, hx, faV_eq, b1, b2, callE_eq hm62, frz_rf, rch_rf, r1, hz, wj, hx2, ← hσ1, sn, sn1, ← hσ2, snx, snp, q0, k1, k2', ← hσ3, snx', sn3, r2, s0, hg, fk, hmg]
            rw [hk]; rfl
          · simp +contextual -implicitDefEqProofs (maxSteps := 2000000) only [↓wP, wQ, wQ1, wQ2, wQ3, wR, boxE, partsOf, ↓reduceIte, n1w, n2w, n3w, n4w, n5w, n6w, reduceCtorEq, i1w, i2w, i3w, i4w, i5w, h1, h2, g1, g2, g3, g4, hx, faV_eq, b1, b2, callE_eq hm62, frz_rf, rch_rf, r1, hz, wj, hx2, ← hσ1, sn, sn1, ← hσ2, snx, snp, q0, k1, k2', ← hσ3, snx', sn3, r2, s0, hg, pu, fk, hmg]
            exact ⟨by rw [hst, hone, hPt]; rfl, _, _, mput_ok m1 _ _, rfl, hnew⟩
  · intro env σ n ⟨g1, g2, g3, g4, g5, g6, _⟩ h1 h2
    have hr : rightF (lst l) = (A && dimB (lst l)) := by unfold rightF; rw [g6, ← hA]; simp
    rw [hr]
    cases hAb : A
    · rw [hAb] at g3
      simp +contextual -implicitDefEqProofs (maxSteps := 2000000) only [↓wP, wQ, wQ1, wQ2, wQ3, wR, boxE, partsOf, ↓reduceIte, n1w, n2w, n3w, n4w, n5w, n6w, reduceCtorEq, i1w, i2w, i3w, i4w, i5w, g1, g3]
    · rw [hAb] at g3
      cases hd : dimB (lst l)
      · rw [hd] at f49'
        simp +contextual -implicitDefEqProofs (maxSteps := 2000000) only [↓wP, wQ, wQ1, wQ2, wQ3, wR, boxE, partsOf, ↓reduceIte, n1w, n2w, n3w, n4w, n5w, n6w, reduceCtorEq, i1w, i2w, i3w, i4w, i5w, g1, g3, f49']
      · rw [hd] at f49'
        simp +contextual -implicitDefEqProofs (maxSteps := 2000000) only [↓wP, wQ, wQ1, wQ2, wQ3, wR, boxE, partsOf, ↓reduceIte, n1w, n2w, n3w, n4w, n5w, n6w, reduceCtorEq, i1w, i2w, i3w, i4w, i5w, g1, g3, f49']
  · exact ⟨rfl, rfl, rfl, rfl, Nat.le_refl _, rfl, [], 0, MOk.nil, rfl, fun k => rfl⟩
theorem f24 (l : Option (List Fa)) (h : SmF l) (fs : Bool) (σ : Sto) (n lk : Nat) : callE T fs 24 [slV 5 faV l] σ n lk = some (.int .i64 (if rightF (lst l) then 0 else 280), σ, n) :=
  callE_tr (by decide) (r24 l h) (by simp [Tr, Tr_slV]) rfl fs σ n lk
end Go.Q.SB
end

section
/- Which facts may be: the document's answer. -/
set_option linter.unusedSimpArgs false
set_option linter.unusedVariables false
namespace Go.Q.SB
open Go.Q
open Nat renaming reduceEqDiff → n1w, reduceAdd → n2w, reduceSub → n3w, reduceLeDiff → n4w, reduceLT → n5w, reduceMul → n6w
open Int renaming reduceBNe → i1w, reduceBEq → i2w, reduceLT → i3w, reduceLE → i4w, reduceGT → i5w
theorem FitF.sm {l : Option (List Fa)} (h : FitF (lst l)) : SmF l := ⟨by have := h.1; omega, fun f hf => by have := h.2 f hf; unfold Sm; omega⟩
theorem FitF.take {l : List Fa} (h : FitF l) (j : Nat) : FitF (l.take j) := ⟨by have := h.1; rw [List.length_take]; omega, fun f hf => h.2 f (List.mem_of_mem_take hf)⟩
theorem r15 (l : Option (List Fa)) (h : FitF (lst l)) : res T 15 [slV 5 faV l] = some (.bool (rightF (lst l))) := by
  refine run_res (run_pure (fn := g15) rfl rfl (by decide) ?_)
  simp only [g15, b15, oO, oN, mV, lD, gO, pP, qQ, cI, aR]
  have hl := h.1
  have f52' := f52 l h.sm
  by_cases hA : 2000 < (lst l).length
  · have hA' : (2000 : Int) < ((lst l).length : Int) := by omega
    have hr : rightF (lst l) = false := by unfold rightF; rw [decide_eq_false (by omega)]; rfl
    simp +contextual -implicitDefEqProofs (maxSteps := 2000000) only [↓wP, wQ, wQ1, wQ2, wQ3, wR, boxE, partsOf, ↓reduceIte, n1w, n2w, n3w, n4w, n5w, n6w, reduceCtorEq, i1w, i2w, i3w, i4w, i5w, hA', hr]
  have hA' : ¬ (2000 : Int) < ((lst l).length : Int) := by omega
  simp +contextual -implicitDefEqProofs (maxSteps := 2000000) only [↓wP, wQ, wQ1, wQ2, wQ3, wR, boxE, partsOf, ↓reduceIte, n1w, n2w, n3w, n4w, n5w, n6w, reduceCtorEq, i1w, i2w, i3w, i4w, i5w, hA']
  refine WC_for (lst l).length 0 (fun (j : Nat) env σ n => env 0 = slV 5 faV l ∧ env 8 = slV 5 faV l ∧ okU (lst l) j = true) (by omega) (by decide) (by decide) (fun _ _ => rfl) (fun _ _ _ => rfl) ?_ ?_ _ _ _ rfl rfl ?_
  · intro j env σ n hj h1 h2 ⟨g1, g2, g3⟩
    simp only [vl_tmp] at h2
    have hx : (lst l)[j]? = some (lst l)[j] := List.getElem?_eq_getElem hj
    have hst := okU_eq hj
    rw [g3, Bool.true_and] at hst
    have hno : oneF (lst l) j (lst l)[j] = false → rightF (lst l) = false := fun hk => by
      unfold rightF
      rw [okU_no (by rw [hst, hk]) _ (by omega : j + 1 ≤ (lst l).length)]
      simp
    have hsm := h.sm.2 _ (List.getElem_mem hj)
    have hbf := fun h1 => isB_before hj g3 h1 (fun f => decide (f.ts ≤ (lst l)[j].ts - 1)) (fun f => rfl)
    have hlk : lst (sub l 0 j) = (lst l).take j := by rw [lst_sub, List.drop_zero]
    have f51' := f51 (sub l 0 j) (lst l)[j].w.c (lst l)[j].w.id ((lst l)[j].ts - 1) (by rw [hlk]; exact h.take j)
    rw [hlk] at f51'
    have hth : thB ((lst l).take j) (lst l)[j].w.c (lst l)[j].w.id ((lst l)[j].ts - 1) = isB (((lst l).take j).filter fun f => decide (f.ts ≤ (lst l)[j].ts - 1)) (key (lst l)[j].w) := rfl
    rw [hth] at f51'
    have hjl : j ≤ (lst l).length := by omega
    generalize (lst l)[j] = x at *
    by_cases b1 : x.ts < 1
    · have hk := hno (by unfold oneF one1; rw [decide_eq_false (by omega)]; rfl)
      simp +contextual -implicitDefEqProofs (maxSteps := 2000000) only [↓wP, wQ, wQ1, wQ2, wQ3, wR, boxE, partsOf, ↓reduceIte, n1w, n2w, n3w, n4w, n5w, n6w, reduceCtorEq, i1w, i2w, i3w, i4w, i5w, h1, h2, g1, g2, hx, faV_eq, b1]
      rw [hk]
    by_cases b2 : 1099511627776 < x.ts
    · have hk := hno (by unfold oneF one1; rw [decide_eq_false (show ¬ x.ts ≤ 1099511627776 by omega)]; simp)
      simp +contextual -implicitDefEqProofs (maxSteps := 2000000) only [↓wP, wQ, wQ1, wQ2, wQ3, wR, boxE, partsOf, ↓reduceIte, n1w, n2w, n3w, n4w, n5w, n6w, reduceCtorEq, i1w, i2w, i3w, i4w, i5w, h1, h2, g1, g2, hx, faV_eq, b1, b2]
      rw [hk]
    have b1' : 1 ≤ x.ts := by omega
    have b2' : x.ts ≤ 1099511627776 := by omega
    have wts : IntKind.u64.wrap (x.ts - 1) = x.ts - 1 := by rw [wrap_u64] <;> omega
    have r1 := r16 (some [x.w]) ⟨by show 1 < _; decide, fun w hw => by rw [lst_some, List.mem_singleton] at hw; subst hw; exact hsm⟩
    rw [lst_some, right1] at r1
    rw [show slV 4 wrV (some [x.w]) = V.sl 4 [wrV x.w] from rfl, wrV_eq] at r1
    have hm16 : T.mode 16 ≠ .raw := by decide
    by_cases b3 : okW x.w = true
    rotate_left
    · have b3' : okW x.w = false := by simpa using b3
      have hk := hno (by unfold oneF one1; simp [b3'])
      rw [b3'] at r1
      simp +contextual -implicitDefEqProofs (maxSteps := 2000000) only [↓wP, wQ, wQ1, wQ2, wQ3, wR, boxE, partsOf, ↓reduceIte, n1w, n2w, n3w, n4w, n5w, n6w, reduceCtorEq, i1w, i2w, i3w, i4w, i5w, h1, h2, g1, g2, hx, faV_eq, b1, b2, callE_eq hm16, frz_rf, rch_rf, r1]
      rw [hk]
    rw [b3] at r1
    obtain ⟨P, hP⟩ : ∃ P, P = one1 (lst l) j x := ⟨_, rfl⟩
    have hone : oneF (lst l) j x = (P && (!x.w.g || isB ((lst l).take j) (key x.w))) := by rw [hP]; rfl
    rw [← hP] at hbf
    obtain ⟨σ1, hσ1⟩ : ∃ σ1, σ1 = upd (upd (upd σ n (some (.row 5 [.agg [.int .u64 0, .int .i64 0, .int .u64 0, .bool false, .nilS]]))) n (some (.row 5 [.agg [.int .u64 x.ts, .int .i64 x.w.c, .int .u64 x.w.id, .bool x.w.g, slV 1 i32V x.w.v]]))) (n + 1) (some (.row 4 [.agg [.int .i64 x.w.c, .int .u64 x.w.id, .bool x.w.g, slV 1 i32V x.w.v]])) := ⟨_, rfl⟩
    have sn : σ1 n = some (.row 5 [.agg [.int .u64 x.ts, .int .i64 x.w.c, .int .u64 x.w.id, .bool x.w.g, slV 1 i32V x.w.v]]) := by rw [hσ1, upd_ne (by omega), upd_self]
    have sn1 : σ1 (n + 1) = some (.row 4 [.agg [.int .i64 x.w.c, .int .u64 x.w.id, .bool x.w.g, slV 1 i32V x.w.v]]) := by rw [hσ1, upd_self]
    by_cases hj0 : j = 0
    · have hz : ¬ ((0 : Int) < (j : Int)) := by omega
      have hPt : P = true := by rw [hP]; unfold one1; subst hj0; simp [b1', b2', b3]
      have snx := sn
      have y0 : ∀ hid, hide σ1 (n + 2) (n + 2) hid n = σ1 n := fun hid => hide_low _ _ _ _ (by omega) (Nat.le_refl _)
      rw [hbf hPt] at f51'
      cases hg : x.w.g
      all_goals rw [hg] at r1 hσ1 sn sn1 snx hone
      · simp +contextual -implicitDefEqProofs (maxSteps := 2000000) only [↓wP, wQ, wQ1, wQ2, wQ3, wR, boxE, partsOf, ↓reduceIte, n1w, n2w, n3w, n4w, n5w, n6w, reduceCtorEq, i1w, i2w, i3w, i4w, i5w, h1, h2, g1, g2, hx, faV_eq, b1, b2, wts, hjl, callE_eq hm16, frz_rf, rch_rf, r1, hz, ← hσ1, sn, sn1, hg, y0]
        rw [hst, hone, hPt]; rfl
      · cases hb : isB ((lst l).take j) (key x.w)
        all_goals rw [hb] at f51' hone
        · have hk := hno (by rw [hone, hPt]; rfl)
          simp +contextual -implicitDefEqProofs (maxSteps := 2000000) only [↓wP, wQ, wQ1, wQ2, wQ3, wR, boxE, partsOf, ↓reduceIte, n1w, n2w, n3w, n4w, n5w, n6w, reduceCtorEq, i1w, i2w, i3w, i4w, i5w, h1, h2, g1, g2, hx, faV_eq, b1, b2, wts, hjl, callE_eq hm16, frz_rf, rch_rf, r1, hz, ← hσ1, sn, sn1, hg, y0, f51']
          rw [hk]
        · simp +contextual -implicitDefEqProofs (maxSteps := 2000000) only [↓wP, wQ, wQ1, wQ2, wQ3, wR, boxE, partsOf, ↓reduceIte, n1w, n2w, n3w, n4w, n5w, n6w, reduceCtorEq, i1w, i2w, i3w, i4w, i5w, h1, h2, g1, g2, hx, faV_eq, b1, b2, wts, hjl, callE_eq hm16, frz_rf, rch_rf, r1, hz, ← hσ1, sn, sn1, hg, y0, f51']
          rw [hst, hone, hPt]; rfl
    · have hz : (0 : Int) < (j : Int) := by omega
      have wj : IntKind.i64.wrap ((j : Int) - 1) = ((j - 1 : Nat) : Int) := by rw [wrap_i64] <;> omega
      have hx2 : (lst l)[j - 1]? = some (lst l)[j - 1] := List.getElem?_eq_getElem (by omega)
      have hsp := h.sm.2 _ (List.getElem_mem (show j - 1 < (lst l).length by omega))
      obtain ⟨p, hp⟩ : ∃ p, p = (lst l)[j - 1] := ⟨_, rfl⟩
      rw [← hp] at hx2 hsp
      have hPm : P = aft p x := by
        obtain ⟨i, rfl⟩ : ∃ i, j = i + 1 := ⟨j - 1, by omega⟩
        rw [hP]; unfold one1
        rw [show i + 1 - 1 = i from rfl] at hx2
        simp [hx2, b1', b2', b3]
      have yA : ∀ hid, hide σ1 (n + 2) (n + 2) hid n = σ1 n := fun hid => hide_low _ _ _ _ (by omega) (Nat.le_refl _)
      have snx := sn
      by_cases k0 : x.ts < p.ts
      · have hk := hno (by rw [hone, hPm]; unfold aft; rw [decide_eq_false (show ¬ p.ts < x.ts by omega), show (p.ts == x.ts) = false by simp; omega]; rfl)
        simp +contextual -implicitDefEqProofs (maxSteps := 2000000) only [↓wP, wQ, wQ1, wQ2, wQ3, wR, boxE, partsOf, ↓reduceIte, n1w, n2w, n3w, n4w, n5w, n6w, reduceCtorEq, i1w, i2w, i3w, i4w, i5w, h1, h2, g1, g2, hx, faV_eq, b1, b2, wts, hjl, callE_eq hm16, frz_rf, rch_rf, r1, hz, wj, hx2, ← hσ1, sn, sn1, yA, k0]
        rw [hk]
      by_cases k2 : p.ts = x.ts
      rotate_left
      · have k2' : (p.ts == x.ts) = false := by simp [k2]
        have hPt : P = true := by rw [hPm]; unfold aft; rw [decide_eq_true (show p.ts < x.ts by omega)]; rfl
        have y0 : ∀ hid, hide σ1 (n + 2) (n + 2) hid n = σ1 n := fun hid => hide_low _ _ _ _ (by omega) (Nat.le_refl _)
        rw [hbf hPt] at f51'
        cases hg : x.w.g
        all_goals rw [hg] at r1 hσ1 sn sn1 snx hone
        · simp +contextual -implicitDefEqProofs (maxSteps := 2000000) only [↓wP, wQ, wQ1, wQ2, wQ3, wR, boxE, partsOf, ↓reduceIte, n1w, n2w, n3w, n4w, n5w, n6w, reduceCtorEq, i1w, i2w, i3w, i4w, i5w, h1, h2, g1, g2, hx, faV_eq, b1, b2, wts, hjl, callE_eq hm16, frz_rf, rch_rf, r1, hz, wj, hx2, ← hσ1, sn, sn1, yA, k0, k2', hg, y0]
          rw [hst, hone, hPt]; rfl
        · cases hb : isB ((lst l).take j) (key x.w)
          all_goals rw [hb] at f51' hone
          · have hk := hno (by rw [hone, hPt]; rfl)
            simp +contextual -implicitDefEqProofs (maxSteps := 2000000) only [↓wP, wQ, wQ1, wQ2, wQ3, wR, boxE, partsOf, ↓reduceIte, n1w, n2w, n3w, n4w, n5w, n6w, reduceCtorEq, i1w, i2w, i3w, i4w, i5w, h1, h2, g1, g2, hx, faV_eq, b1, b2, wts, hjl, callE_eq hm16, frz_rf, rch_rf, r1, hz, wj, hx2, ← hσ1, sn, sn1, yA, k0, k2', hg, y0, f51']
            rw [hk]
          · simp +contextual -implicitDefEqProofs (maxSteps := 2000000) only [↓wP, wQ, wQ1, wQ2, wQ3, wR, boxE, partsOf, ↓reduceIte, n1w, n2w, n3w, n4w, n5w, n6w, reduceCtorEq, i1w, i2w, i3w, i4w, i5w, h1, h2, g1, g2, hx, faV_eq, b1, b2, wts, hjl, callE_eq hm16, frz_rf, rch_rf, r1, hz, wj, hx2, ← hσ1, sn, sn1, yA, k0, k2', hg, y0, f51']
            rw [hst, hone, hPt]; rfl
      have k2' : (p.ts == x.ts) = true := by simp [k2]
      have r2 := r16 (some [p.w, x.w]) ⟨by show 2 < _; decide, fun w hw => by
        rw [lst_some] at hw
        rcases List.mem_cons.1 hw with rfl | hw
        · exact hsp
        · rw [List.mem_singleton] at hw; subst hw; exact hsm⟩
      rw [lst_some, right2, b3, Bool.true_and] at r2
      rw [show slV 4 wrV (some [p.w, x.w]) = V.sl 4 [wrV p.w, wrV x.w] from rfl, wrV_eq, wrV_eq] at r2
      have hPa : P = (okW p.w && bef p.w x.w) := by rw [hPm]; unfold aft; rw [decide_eq_false (show ¬ p.ts < x.ts by omega), k2', b3]; simp
      rw [← hPa] at r2
      obtain ⟨σ3, hσ3⟩ : ∃ σ3, σ3 = upd σ1 (n + 2) (some (.row 4 [.agg [.int .i64 p.w.c, .int .u64 p.w.id, .bool p.w.g, slV 1 i32V p.w.v], .agg [.int .i64 x.w.c, .int .u64 x.w.id, .bool x.w.g, slV 1 i32V x.w.v]])) := ⟨_, rfl⟩
      have snx' : σ3 n = some (.row 5 [.agg [.int .u64 x.ts, .int .i64 x.w.c, .int .u64 x.w.id, .bool x.w.g, slV 1 i32V x.w.v]]) := by rw [hσ3, upd_ne (by omega)]; exact snx
      have sn3 : σ3 (n + 2) = some (.row 4 [.agg [.int .i64 p.w.c, .int .u64 p.w.id, .bool p.w.g, slV 1 i32V p.w.v], .agg [.int .i64 x.w.c, .int .u64 x.w.id, .bool x.w.g, slV 1 i32V x.w.v]]) := by rw [hσ3, upd_self]
      cases hPt : P
      · have hk := hno (by rw [hone, hPt]; rfl)
        rw [hPt] at r2
        simp +contextual -implicitDefEqProofs (maxSteps := 2000000) only [↓wP, wQ, wQ1, wQ2, wQ3, wR, boxE, partsOf, ↓reduceIte, n1w, n2w, n3w, n4w, n5w, n6w, reduceCtorEq, i1w, i2w, i3w, i4w, i5w, h1, h2, g1, g2, hx, faV_eq, b1, b2, wts, hjl, callE_eq hm16, frz_rf, rch_rf, r1, hz, wj, hx2, ← hσ1, sn, sn1, yA, k0, k2', ← hσ3, snx', sn3, r2]
        rw [hk]
      rw [hPt] at r2
      have y0 : ∀ hid, hide σ3 (n + 3) (n + 3) hid n = σ3 n := fun hid => hide_low _ _ _ _ (by omega) (Nat.le_refl _)
      rw [hbf hPt] at f51'
      cases hg : x.w.g
      all_goals rw [hg] at r1 hσ1 r2 hσ3 sn sn1 snx snx' sn3 hone
      · simp +contextual -implicitDefEqProofs (maxSteps := 2000000) only [↓wP, wQ, wQ1, wQ2, wQ3, wR, boxE, partsOf, ↓reduceIte, n1w, n2w, n3w, n4w, n5w, n6w, reduceCtorEq, i1w, i2w, i3w, i4w, i5w, h1, h2, g1, g2, hx, faV_eq, b1, b2, wts, hjl, callE_eq hm16, frz_rf, rch_rf, r1, hz, wj, hx2, ← hσ1, sn, sn1, yA, k0, k2', ← hσ3, snx', sn3, r2, hg, y0]
        rw [hst, hone, hPt]; rfl
      · cases hb : isB ((lst l).take j) (key x.w)
        all_goals rw [hb] at f51' hone
        · have hk := hno (by rw [hone, hPt]; rfl)
          simp +contextual -implicitDefEqProofs (maxSteps := 2000000) only [↓wP, wQ, wQ1, wQ2, wQ3, wR, boxE, partsOf, ↓reduceIte, n1w, n2w, n3w, n4w, n5w, n6w, reduceCtorEq, i1w, i2w, i3w, i4w, i5w, h1, h2, g1, g2, hx, faV_eq, b1, b2, wts, hjl, callE_eq hm16, frz_rf, rch_rf, r1, hz, wj, hx2, ← hσ1, sn, sn1, yA, k0, k2', ← hσ3, snx', sn3, r2, hg, y0, f51']
          rw [hk]
        · simp +contextual -implicitDefEqProofs (maxSteps := 2000000) only [↓wP, wQ, wQ1, wQ2, wQ3, wR, boxE, partsOf, ↓reduceIte, n1w, n2w, n3w, n4w, n5w, n6w, reduceCtorEq, i1w, i2w, i3w, i4w, i5w, h1, h2, g1, g2, hx, faV_eq, b1, b2, wts, hjl, callE_eq hm16, frz_rf, rch_rf, r1, hz, wj, hx2, ← hσ1, sn, sn1, yA, k0, k2', ← hσ3, snx', sn3, r2, hg, y0, f51']
          rw [hst, hone, hPt]; rfl
  · intro env σ n ⟨g1, g2, g3⟩ h1 h2
    have hr : rightF (lst l) = dimB (lst l) := by unfold rightF; rw [g3, decide_eq_true (by omega)]; simp
    rw [hr]
    simp +contextual -implicitDefEqProofs (maxSteps := 2000000) only [↓wP, wQ, wQ1, wQ2, wQ3, wR, boxE, partsOf, ↓reduceIte, n1w, n2w, n3w, n4w, n5w, n6w, reduceCtorEq, i1w, i2w, i3w, i4w, i5w, g1, f52']
  · simp +contextual -implicitDefEqProofs (maxSteps := 2000000) only [↓wP, wQ, wQ1, wQ2, wQ3, wR, boxE, partsOf, ↓reduceIte, n1w, n2w, n3w, n4w, n5w, n6w, reduceCtorEq, i1w, i2w, i3w, i4w, i5w]
    rfl
theorem f15 (l : Option (List Fa)) (h : FitF (lst l)) (fs : Bool) (σ : Sto) (n lk : Nat) : callE T fs 15 [slV 5 faV l] σ n lk = some (.bool (rightF (lst l)), σ, n) :=
  callE_tr (by decide) (r15 l h) (by simp [Tr, Tr_slV]) rfl fs σ n lk
end Go.Q.SB
end

section
/- The pivot of a sort. -/
set_option linter.unusedSimpArgs false
set_option linter.unusedVariables false
namespace Go.Q.SB
open Go.Q
open Nat renaming reduceEqDiff → n1w, reduceAdd → n2w, reduceSub → n3w, reduceLeDiff → n4w, reduceLT → n5w, reduceMul → n6w
open Int renaming reduceBNe → i1w, reduceBEq → i2w, reduceLT → i3w, reduceLE → i4w, reduceGT → i5w
instance : Inhabited Rw := ⟨⟨0, none⟩⟩
def ahR (a b : Rw) : Bool := decide (a.id < b.id)
theorem cmp_lt (a b : Rw) : decide (cmpU a.id b.id < 0) = ahR a b := by
  unfold cmpU ahR
  by_cases h1 : a.id < b.id
  · simp [h1]
  · by_cases h2 : b.id < a.id <;> simp [h1, h2]
theorem swoA : Go.Sort.SWO ahR where
  irrefl := fun x => by simp [ahR]
  trans := fun x y z h1 h2 => by simp [ahR] at *; omega
  ntrans := fun x y z h1 h2 => by simp [ahR] at *; omega
abbrev CmpF (F : Nat) : Prop := ∀ (a b : Int) (u v : Vc) (fs : Bool) (σ : Sto) (n lk : Nat), callE T fs F [.agg [.int .u64 a, slV 1 i32V u], .agg [.int .u64 b, slV 1 i32V v]] σ n lk = some (.int .i64 (cmpU a b), σ, n)
theorem r96 (a b : Int) (u v : Vc) : res T 96 [.agg [.int .u64 a, slV 1 i32V u], .agg [.int .u64 b, slV 1 i32V v]] = some (.int .i64 (cmpU a b)) := by
  refine run_res (run_pure (fn := g96) rfl rfl (by decide) ?_)
  simp only [g96, b96, oO, oN, mV, lD, gO, pP, qQ, cI, aR]
  simp +contextual -implicitDefEqProofs (maxSteps := 2000000) only [↓wP, wQ, wQ1, wQ2, wQ3, wR, boxE, partsOf, ↓reduceIte, n1w, n2w, n3w, n4w, n5w, n6w, reduceCtorEq, i1w, i2w, i3w, i4w, i5w, f77]
theorem f96 (a b : Int) (u v : Vc) (fs : Bool) (σ : Sto) (n lk : Nat) : callE T fs 96 [.agg [.int .u64 a, slV 1 i32V u], .agg [.int .u64 b, slV 1 i32V v]] σ n lk = some (.int .i64 (cmpU a b), σ, n) :=
  callE_tr (by decide) (r96 a b u v) (by simp [Tr, Tr_slV]) rfl fs σ n lk
theorem cmp96 : CmpF 96 := fun a b u v fs σ n lk => f96 a b u v fs σ n lk
def rw' (d : Array Rw) : List V := d.toList.map rwV
theorem rw_len (d : Array Rw) : (rw' d).length = d.size := by simp [rw']
theorem rw_at {d : Array Rw} {i : Nat} (h : i < d.size) : (rw' d)[i]? = some (.agg [.int .u64 (d[i]!).id, slV 1 i32V (d[i]!).v]) := by
  unfold rw'
  rw [List.getElem?_map, List.getElem?_eq_getElem (by simpa using h), Option.map_some]
  simp [rwV, h]
theorem wrap_nat {m : Nat} (h : m < 9223372036854775808) : IntKind.i64.wrap (m : Int) = (m : Int) := by rw [wrap_i64] <;> omega
theorem bin_quo4 (m : Nat) (h : m < 9223372036854775808) : binV .quo (.int .i64 (m : Int)) (.int .i64 4) = some (.int .i64 ((m / 4 : Nat) : Int)) := by
  rw [bin_quo .i64 (m : Int) 4 (by decide)]
  have e : (m : Int).tdiv 4 = ((m / 4 : Nat) : Int) := rfl
  rw [e, wrap_nat (by omega)]
theorem raw128 (F : Nat) (hF : CmpF F) (d : Array Rw) (a b : Nat) (s : Int) (sid n : Nat) (σ : Sto) (ha : a < d.size) (hb : b < d.size) (hs : σ sid = some (.row 1 [.int .i64 s])) {Q : V → Sto → Nat → Prop}
    (hQ : ∀ (x y : Nat) (s' : Int) (σ' : Sto), (x = a ∨ x = b) → (y = a ∨ y = b) → σ' sid = some (.row 1 [.int .i64 s']) → (∀ i, i ≠ sid → σ' i = σ i) → Q (.tup [.int .i64 (x : Int), .int .i64 (y : Int)]) σ' n) :
    run T (.raw 128 [.sl 2 (rw' d), .int .i64 (a : Int), .int .i64 (b : Int), .ptr sid 1 0 0, .fn F []] σ n 0) (memQ Q) := by
  refine run_rawE (fn := g128) rfl rfl ?_
  simp only [g128, b128, oO, oN, mV, lD, gO, pP, qQ, cI, aR]
  have hxa := rw_at ha
  have hxb := rw_at hb
  by_cases hc : cmpU (d[b]!).id (d[a]!).id < 0
  · simp +contextual -implicitDefEqProofs (maxSteps := 2000000) only [↓wP, wQ, wQ1, wQ2, wQ3, wR, boxE, partsOf, ↓reduceIte, n1w, n2w, n3w, n4w, n5w, n6w, reduceCtorEq, i1w, i2w, i3w, i4w, i5w, hxa, hxb, hF, hc, hs]
    exact hQ b a _ _ (.inr rfl) (.inl rfl) (by simp [upd]; rfl) (fun i hi => by simp [upd, hi])
  · simp +contextual -implicitDefEqProofs (maxSteps := 2000000) only [↓wP, wQ, wQ1, wQ2, wQ3, wR, boxE, partsOf, ↓reduceIte, n1w, n2w, n3w, n4w, n5w, n6w, reduceCtorEq, i1w, i2w, i3w, i4w, i5w, hxa, hxb, hF, hc, hs]
    exact hQ a b _ _ (.inl rfl) (.inr rfl) hs (fun i hi => rfl)
theorem raw127 (F : Nat) (hF : CmpF F) (d : Array Rw) (a b c : Nat) (s : Int) (sid n : Nat) (σ : Sto) (ha : a < d.size) (hb : b < d.size) (hc : c < d.size) (hs : σ sid = some (.row 1 [.int .i64 s])) {Q : V → Sto → Nat → Prop}
    (hQ : ∀ (x : Nat) (s' : Int) (σ' : Sto), (x = a ∨ x = b ∨ x = c) → σ' sid = some (.row 1 [.int .i64 s']) → (∀ i, i ≠ sid → σ' i = σ i) → Q (.int .i64 (x : Int)) σ' n) :
    run T (.raw 127 [.sl 2 (rw' d), .int .i64 (a : Int), .int .i64 (b : Int), .int .i64 (c : Int), .ptr sid 1 0 0, .fn F []] σ n 0) (memQ Q) := by
  refine run_rawE (fn := g127) rfl rfl ?_
  simp only [g127, b127, oO, oN, mV, lD, gO, pP, qQ, cI, aR]
  simp +contextual -implicitDefEqProofs (maxSteps := 2000000) only [↓wP, wQ, wQ1, wQ2, wQ3, wR, boxE, partsOf, ↓reduceIte, n1w, n2w, n3w, n4w, n5w, n6w, reduceCtorEq, i1w, i2w, i3w, i4w, i5w]
  refine stepW_raw (by decide) (raw128 F hF d a b s sid n σ ha hb hs fun x y s1 σ1 hx hy h1 h2 => ?_)
  simp +contextual -implicitDefEqProofs (maxSteps := 2000000) only [↓wP, wQ, wQ1, wQ2, wQ3, wR, boxE, partsOf, ↓reduceIte, n1w, n2w, n3w, n4w, n5w, n6w, reduceCtorEq, i1w, i2w, i3w, i4w, i5w]
  have hy' : y < d.size := by rcases hy with rfl | rfl <;> assumption
  have hx' : x < d.size := by rcases hx with rfl | rfl <;> assumption
  refine stepW_raw (by decide) (raw128 F hF d y c s1 sid n σ1 hy' hc h1 fun x2 y2 s2 σ2 hx2 hy2 h3 h4 => ?_)
  simp +contextual -implicitDefEqProofs (maxSteps := 2000000) only [↓wP, wQ, wQ1, wQ2, wQ3, wR, boxE, partsOf, ↓reduceIte, n1w, n2w, n3w, n4w, n5w, n6w, reduceCtorEq, i1w, i2w, i3w, i4w, i5w]
  have hx2' : x2 < d.size := by rcases hx2 with rfl | rfl <;> assumption
  refine stepW_raw (by decide) (raw128 F hF d x x2 s2 sid n σ2 hx' hx2' h3 fun x3 y3 s3 σ3 hx3 hy3 h5 h6 => ?_)
  simp +contextual -implicitDefEqProofs (maxSteps := 2000000) only [↓wP, wQ, wQ1, wQ2, wQ3, wR, boxE, partsOf, ↓reduceIte, n1w, n2w, n3w, n4w, n5w, n6w, reduceCtorEq, i1w, i2w, i3w, i4w, i5w]
  refine hQ y3 s3 σ3 ?_ h5 (fun i hi => by rw [h6 i hi, h4 i hi, h2 i hi])
  rcases hy3 with rfl | rfl
  · rcases hx with rfl | rfl <;> simp
  · rcases hx2 with rfl | rfl
    · rcases hy with rfl | rfl <;> simp
    · simp
theorem raw126 (F : Nat) (hF : CmpF F) (d : Array Rw) (a : Nat) (s : Int) (sid n : Nat) (σ : Sto) (ha : 1 ≤ a) (hb : a + 1 < d.size) (hn : d.size < 1000000) (hs : σ sid = some (.row 1 [.int .i64 s])) {Q : V → Sto → Nat → Prop}
    (hQ : ∀ (x : Nat) (s' : Int) (σ' : Sto), (x = a - 1 ∨ x = a ∨ x = a + 1) → σ' sid = some (.row 1 [.int .i64 s']) → (∀ i, i ≠ sid → σ' i = σ i) → Q (.int .i64 (x : Int)) σ' n) :
    run T (.raw 126 [.sl 2 (rw' d), .int .i64 (a : Int), .ptr sid 1 0 0, .fn F []] σ n 0) (memQ Q) := by
  refine run_rawE (fn := g126) rfl rfl ?_
  simp only [g126, b126, oO, oN, mV, lD, gO, pP, qQ, cI, aR]
  have w1 : IntKind.i64.wrap ((a : Int) - 1) = ((a - 1 : Nat) : Int) := by rw [wrap_i64] <;> omega
  have w2 : IntKind.i64.wrap ((a : Int) + 1) = ((a + 1 : Nat) : Int) := by rw [wrap_i64] <;> omega
  simp +contextual -implicitDefEqProofs (maxSteps := 2000000) only [↓wP, wQ, wQ1, wQ2, wQ3, wR, boxE, partsOf, ↓reduceIte, n1w, n2w, n3w, n4w, n5w, n6w, reduceCtorEq, i1w, i2w, i3w, i4w, i5w, w1, w2]
  refine stepW_raw (by decide) (raw127 F hF d (a - 1) a (a + 1) s sid n σ (by omega) (by omega) (by omega) hs fun x s' σ' hx h1 h2 => ?_)
  simp +contextual -implicitDefEqProofs (maxSteps := 2000000) only [↓wP, wQ, wQ1, wQ2, wQ3, wR, boxE, partsOf, ↓reduceIte, n1w, n2w, n3w, n4w, n5w, n6w, reduceCtorEq, i1w, i2w, i3w, i4w, i5w]
  exact hQ x s' σ' hx h1 h2
theorem r115 (F : Nat) (hF : CmpF F) (d : Array Rw) (a b : Nat) (hab : a < b) (hb : b ≤ d.size) (hn : d.size < 1000000) :
    ∃ (p : Nat) (h : Int), a ≤ p ∧ p < b ∧ (h = 0 ∨ h = 1 ∨ h = 2) ∧ res T 115 [.sl 2 (rw' d), .int .i64 (a : Int), .int .i64 (b : Int), .fn F []] = some (.tup [.int .i64 (p : Int), .int .i64 h]) := by
  obtain ⟨r, hr, p, h, h1, h2, h3, rfl⟩ := res_pure (T := T) (f := 115) (args := [.sl 2 (rw' d), .int .i64 (a : Int), .int .i64 (b : Int), .fn F []])
      (R := fun r => ∃ (p : Nat) (h : Int), a ≤ p ∧ p < b ∧ (h = 0 ∨ h = 1 ∨ h = 2) ∧ r = .tup [.int .i64 (p : Int), .int .i64 h]) (fn := g115) rfl rfl (by decide) (by
    simp only [g115, b115, oO, oN, mV, lD, gO, pP, qQ, cI, aR]
    have w1 : IntKind.i64.wrap ((b : Int) - (a : Int)) = ((b - a : Nat) : Int) := by rw [wrap_i64] <;> omega
    have q4 := bin_quo4 (b - a) (by omega)
    have w2 : IntKind.i64.wrap ((((b - a) / 4 : Nat) : Int) * 1) = (((b - a) / 4 : Nat) : Int) := by rw [wrap_i64] <;> omega
    have w3 : IntKind.i64.wrap ((((b - a) / 4 : Nat) : Int) * 2) = (((b - a) / 4 * 2 : Nat) : Int) := by rw [wrap_i64] <;> omega
    have w4 : IntKind.i64.wrap ((((b - a) / 4 : Nat) : Int) * 3) = (((b - a) / 4 * 3 : Nat) : Int) := by rw [wrap_i64] <;> omega
    have w5 : IntKind.i64.wrap ((a : Int) + (((b - a) / 4 : Nat) : Int)) = ((a + (b - a) / 4 : Nat) : Int) := by rw [wrap_i64] <;> omega
    have w6 : IntKind.i64.wrap ((a : Int) + (((b - a) / 4 * 2 : Nat) : Int)) = ((a + (b - a) / 4 * 2 : Nat) : Int) := by rw [wrap_i64] <;> omega
    have w7 : IntKind.i64.wrap ((a : Int) + (((b - a) / 4 * 3 : Nat) : Int)) = ((a + (b - a) / 4 * 3 : Nat) : Int) := by rw [wrap_i64] <;> omega
    by_cases c8 : (8 : Int) ≤ ((b - a : Nat) : Int)
    · by_cases c50 : (50 : Int) ≤ ((b - a : Nat) : Int)
      · simp +contextual -implicitDefEqProofs (maxSteps := 2000000) only [↓wP, wQ, wQ1, wQ2, wQ3, wR, boxE, partsOf, ↓reduceIte, n1w, n2w, n3w, n4w, n5w, n6w, reduceCtorEq, i1w, i2w, i3w, i4w, i5w, w1, q4, w2, w3, w4, w5, w6, w7, c8, c50]
        obtain ⟨q, hq⟩ : ∃ q, q = (b - a) / 4 := ⟨_, rfl⟩
        have hq1 : 12 ≤ q := by omega
        have hq2 : q * 4 ≤ b - a := by omega
        rw [← hq]
        clear w1 q4 w2 w3 w4 w5 w6 w7 c8 c50
        have l1 : a + q + 1 < b := by omega
        have l2 : a + q * 2 + 1 < b := by omega
        have l3 : a + q * 3 + 1 < b := by omega
        have l4 : a + 1 ≤ a + q := by omega
        have l5 : a + 1 ≤ a + q * 2 := by omega
        have l6 : a + 1 ≤ a + q * 3 := by omega
        clear hq hq1 hq2
        generalize a + q = i1 at *
        generalize a + q * 2 = i2 at *
        generalize a + q * 3 = i3 at *
        refine stepW_raw (by decide) (raw126 F hF d i1 0 0 1 _ (by omega) (by omega) hn (by simp [upd]) fun x1 s1 σ1 hx1 g1 g2 => ?_)
        have b1 : a ≤ x1 ∧ x1 < b := by omega
        clear hx1
        simp +contextual -implicitDefEqProofs (maxSteps := 2000000) only [↓wP, wQ, wQ1, wQ2, wQ3, wR, boxE, partsOf, ↓reduceIte, n1w, n2w, n3w, n4w, n5w, n6w, reduceCtorEq, i1w, i2w, i3w, i4w, i5w]
        refine stepW_raw (by decide) (raw126 F hF d i2 s1 0 1 σ1 (by omega) (by omega) hn g1 fun x2 s2 σ2 hx2 g3 g4 => ?_)
        have b2 : a ≤ x2 ∧ x2 < b := by omega
        clear hx2
        simp +contextual -implicitDefEqProofs (maxSteps := 2000000) only [↓wP, wQ, wQ1, wQ2, wQ3, wR, boxE, partsOf, ↓reduceIte, n1w, n2w, n3w, n4w, n5w, n6w, reduceCtorEq, i1w, i2w, i3w, i4w, i5w]
        refine stepW_raw (by decide) (raw126 F hF d i3 s2 0 1 σ2 (by omega) (by omega) hn g3 fun x3 s3 σ3 hx3 g5 g6 => ?_)
        have b3 : a ≤ x3 ∧ x3 < b := by omega
        clear hx3
        simp +contextual -implicitDefEqProofs (maxSteps := 2000000) only [↓wP, wQ, wQ1, wQ2, wQ3, wR, boxE, partsOf, ↓reduceIte, n1w, n2w, n3w, n4w, n5w, n6w, reduceCtorEq, i1w, i2w, i3w, i4w, i5w]
        refine stepW_raw (by decide) (raw127 F hF d x1 x2 x3 s3 0 1 σ3 (by omega) (by omega) (by omega) g5 fun x s' σ' hx h1 h2 => ?_)
        have hx' : a ≤ x ∧ x < b := by omega
        by_cases e0 : s' = 0
        · simp +contextual -implicitDefEqProofs (maxSteps := 2000000) only [↓wP, wQ, wQ1, wQ2, wQ3, wR, boxE, partsOf, ↓reduceIte, n1w, n2w, n3w, n4w, n5w, n6w, reduceCtorEq, i1w, i2w, i3w, i4w, i5w, h1, e0]
          exact ⟨x, 1, hx'.1, hx'.2, by simp, rfl⟩
        · have d0 : (s' == 0) = false := by simpa using e0
          by_cases e12 : s' = 12
          · simp +contextual -implicitDefEqProofs (maxSteps := 2000000) only [↓wP, wQ, wQ1, wQ2, wQ3, wR, boxE, partsOf, ↓reduceIte, n1w, n2w, n3w, n4w, n5w, n6w, reduceCtorEq, i1w, i2w, i3w, i4w, i5w, h1, e12]
            exact ⟨x, 2, hx'.1, hx'.2, by simp, rfl⟩
          · have d12 : (s' == 12) = false := by simpa using e12
            simp +contextual -implicitDefEqProofs (maxSteps := 2000000) only [↓wP, wQ, wQ1, wQ2, wQ3, wR, boxE, partsOf, ↓reduceIte, n1w, n2w, n3w, n4w, n5w, n6w, reduceCtorEq, i1w, i2w, i3w, i4w, i5w, h1, d0, d12]
            exact ⟨x, 0, hx'.1, hx'.2, by simp, rfl⟩
      · simp +contextual -implicitDefEqProofs (maxSteps := 2000000) only [↓wP, wQ, wQ1, wQ2, wQ3, wR, boxE, partsOf, ↓reduceIte, n1w, n2w, n3w, n4w, n5w, n6w, reduceCtorEq, i1w, i2w, i3w, i4w, i5w, w1, q4, w2, w3, w4, w5, w6, w7, c8, c50]
        refine stepW_raw (by decide) (raw127 F hF d _ _ _ 0 0 1 _ (by omega) (by omega) (by omega) (by simp [upd]) fun x s' σ' hx h1 h2 => ?_)
        have hx' : a ≤ x ∧ x < b := by omega
        by_cases e0 : s' = 0
        · simp +contextual -implicitDefEqProofs (maxSteps := 2000000) only [↓wP, wQ, wQ1, wQ2, wQ3, wR, boxE, partsOf, ↓reduceIte, n1w, n2w, n3w, n4w, n5w, n6w, reduceCtorEq, i1w, i2w, i3w, i4w, i5w, h1, e0]
          exact ⟨x, 1, hx'.1, hx'.2, by simp, rfl⟩
        · have d0 : (s' == 0) = false := by simpa using e0
          by_cases e12 : s' = 12
          · simp +contextual -implicitDefEqProofs (maxSteps := 2000000) only [↓wP, wQ, wQ1, wQ2, wQ3, wR, boxE, partsOf, ↓reduceIte, n1w, n2w, n3w, n4w, n5w, n6w, reduceCtorEq, i1w, i2w, i3w, i4w, i5w, h1, e12]
            exact ⟨x, 2, hx'.1, hx'.2, by simp, rfl⟩
          · have d12 : (s' == 12) = false := by simpa using e12
            simp +contextual -implicitDefEqProofs (maxSteps := 2000000) only [↓wP, wQ, wQ1, wQ2, wQ3, wR, boxE, partsOf, ↓reduceIte, n1w, n2w, n3w, n4w, n5w, n6w, reduceCtorEq, i1w, i2w, i3w, i4w, i5w, h1, d0, d12]
            exact ⟨x, 0, hx'.1, hx'.2, by simp, rfl⟩
    · simp +contextual -implicitDefEqProofs (maxSteps := 2000000) only [↓wP, wQ, wQ1, wQ2, wQ3, wR, boxE, partsOf, ↓reduceIte, n1w, n2w, n3w, n4w, n5w, n6w, reduceCtorEq, i1w, i2w, i3w, i4w, i5w, w1, q4, w2, w3, w4, w5, w6, w7, c8]
      exact ⟨a + (b - a) / 4 * 2, 1, by omega, by omega, by simp, rfl⟩)
  exact ⟨p, h, h1, h2, h3, hr⟩
end Go.Q.SB
end

section
/- Small sorts, a part turned round, patterns broken. -/
set_option linter.unusedSimpArgs false
set_option linter.unusedVariables false
namespace Go.Q.SB
open Go.Q Go.Sort
open Nat renaming reduceEqDiff → n1w, reduceAdd → n2w, reduceSub → n3w, reduceLeDiff → n4w, reduceLT → n5w, reduceMul → n6w
open Int renaming reduceBNe → i1w, reduceBEq → i2w, reduceLT → i3w, reduceLE → i4w, reduceGT → i5w
def At (σ σ0 : Sto) (id : Nat) (d : Array Rw) : Prop := σ id = some (.row 2 (rw' d)) ∧ ∀ i, i ≠ id → σ i = σ0 i
theorem rw_set {d : Array Rw} {i : Nat} {x : Rw} : (rw' d).set i (.agg [.int .u64 x.id, slV 1 i32V x.v]) = rw' (d.setIfInBounds i x) := by
  unfold rw'
  rw [Array.toList_setIfInBounds, List.map_set]
  rfl
theorem rw_set_at {d : Array Rw} {i j : Nat} {x : Rw} (hj : j < d.size) : ∃ (u : Int) (w : Vc), ((rw' d).set i (.agg [.int .u64 x.id, slV 1 i32V x.v]))[j]? = some (.agg [.int .u64 u, slV 1 i32V w]) := by
  rw [rw_set, rw_at (by simpa using hj)]
  exact ⟨_, _, rfl⟩
theorem rw_swp (d : Array Rw) (i j : Nat) : ((rw' d).set i (.agg [.int .u64 (d[j]!).id, slV 1 i32V (d[j]!).v])).set j (.agg [.int .u64 (d[i]!).id, slV 1 i32V (d[i]!).v]) = rw' (swp d i j) := by
  rw [rw_set, rw_set]
  rfl
theorem At.swp {σ σ0 : Sto} {id : Nat} {d : Array Rw} (h : At σ σ0 id d) (i j : Nat) :
    At (upd (upd σ id (some (.row 2 ((rw' d).set i (.agg [.int .u64 (d[j]!).id, slV 1 i32V (d[j]!).v]))))) id
      (some (.row 2 (((rw' d).set i (.agg [.int .u64 (d[j]!).id, slV 1 i32V (d[j]!).v])).set j (.agg [.int .u64 (d[i]!).id, slV 1 i32V (d[i]!).v]))))) σ0 id (swp d i j) := by
  refine ⟨?_, fun k hk => ?_⟩
  · simp only [upd, if_true, rw_swp]
  · simp only [upd, hk, if_false, h.2 k hk]
theorem At.refl {σ : Sto} {id : Nat} {d : Array Rw} (h : σ id = some (.row 2 (rw' d))) : At σ σ id d := ⟨h, fun _ _ => rfl⟩
theorem insIn_lt {lt : Rw → Rw → Bool} {a j : Nat} {d : Array Rw} (h : a < j + 1) (hl : lt d[j + 1]! d[j]! = true) : insInner lt a (j + 1) d = insInner lt a j (Go.Sort.swp d (j + 1) j) := by
  rw [insInner]; simp [h, hl]
theorem insIn_stop {lt : Rw → Rw → Bool} {a j : Nat} {d : Array Rw} (h : j ≤ a ∨ (0 < j ∧ lt d[j]! d[j - 1]! = false)) : insInner lt a j d = d := by
  cases j with
  | zero => rfl
  | succ j =>
    rw [insInner]
    rcases h with h | h
    · have : ¬ a < j + 1 := by omega
      simp [this]
    · simp only [Nat.add_sub_cancel] at h
      simp [h.2]
theorem raw112 (F : Nat) (hF : CmpF F) (d : Array Rw) (a b id n : Nat) (σ : Sto) (hab : a ≤ b) (hb : b ≤ d.size) (hn : d.size < 1000000) (hσ : σ id = some (.row 2 (rw' d))) {Q : V → Sto → Nat → Prop}
    (hQ : ∀ σ', At σ' σ id (insertionSort ahR d a b) → Q .undef σ' n) :
    run T (.raw 112 [.ref id 0 d.size 2, .int .i64 (a : Int), .int .i64 (b : Int), .fn F []] σ n 0) (memQ Q) := by
  refine run_rawE (fn := g112) rfl rfl ?_
  simp only [g112, b112, oO, oN, mV, lD, gO, pP, qQ, cI, aR]
  have w1 : IntKind.i64.wrap ((a : Int) + 1) = ((a + 1 : Nat) : Int) := by rw [wrap_i64] <;> omega
  generalize hsz : d.size = N at *
  simp +contextual -implicitDefEqProofs (maxSteps := 2000000) only [↓wP, wQ, wQ1, wQ2, wQ3, wR, boxE, partsOf, ↓reduceIte, n1w, n2w, n3w, n4w, n5w, n6w, reduceCtorEq, i1w, i2w, i3w, i4w, i5w, w1]
  refine WC_loopI 0 (fun (s : Nat × Array Rw) env σ' n' => n' = n ∧ env 0 = .ref id 0 N 2 ∧ env 1 = .int .i64 (a : Int) ∧ env 2 = .int .i64 (b : Int) ∧ env 3 = .fn F [] ∧ env 8 = .int .i64 (s.1 : Int) ∧
      a < s.1 ∧ (s.1 ≤ b ∨ s.1 = a + 1) ∧ s.2.size = N ∧ At σ' σ id s.2 ∧ insOuter ahR a b s.1 s.2 = insertionSort ahR d a b) (fun s => b + 1 - s.1) ?_ (a + 1, d) _ _ _ ?_
  · intro ⟨i, e⟩ env σ1 n1 ⟨h1, h2, h3, h4, h5, h6, h7, h8, h9, h10, h11⟩
    subst h1
    simp only at h6 h7 h8 h9 h10 h11
    by_cases hlt : i < b
    · have w2 : IntKind.i64.wrap ((i : Int) + 1) = ((i + 1 : Nat) : Int) := by rw [wrap_i64] <;> omega
      have hlt' : (i : Int) < (b : Int) := by omega
      rw [insOuter, if_pos hlt] at h11
      simp +contextual -implicitDefEqProofs (maxSteps := 2000000) only [↓wP, wQ, wQ1, wQ2, wQ3, wR, boxE, partsOf, ↓reduceIte, n1w, n2w, n3w, n4w, n5w, n6w, reduceCtorEq, i1w, i2w, i3w, i4w, i5w, h2, h3, h4, h5, h6, hlt']
      refine WC_loopI 0 (fun (s : Nat × Array Rw) env σ' n' => n' = n1 ∧ env 0 = .ref id 0 N 2 ∧ env 1 = .int .i64 (a : Int) ∧ env 2 = .int .i64 (b : Int) ∧ env 3 = .fn F [] ∧ env 8 = .int .i64 (i : Int) ∧ env 9 = .int .i64 (s.1 : Int) ∧
          s.1 ≤ i ∧ s.2.size = N ∧ At σ' σ id s.2 ∧ insInner ahR a s.1 s.2 = insInner ahR a i e) (fun s => s.1) ?_ (i, e) _ _ _ ?_
      · clear h2 h3 h4 h5 h6 h10
        intro ⟨j, g⟩ env σ2 n2 ⟨k1, k2, k3, k4, k5, k6, k7, k8, k9, k10, k11⟩
        subst k1
        simp only at k7 k8 k9 k10 k11
        have hat := k10.1
        by_cases hja : a < j
        · obtain ⟨j, rfl⟩ : ∃ j', j = j' + 1 := ⟨j - 1, by omega⟩
          have hja' : (a : Int) < ((j + 1 : Nat) : Int) := by omega
          have w3 : IntKind.i64.wrap (((j + 1 : Nat) : Int) - 1) = (j : Int) := by rw [wrap_i64] <;> omega
          have x1 := rw_at (d := g) (i := j + 1) (by omega)
          have x2 := rw_at (d := g) (i := j) (by omega)
          have l1 : j + 1 < N := by omega
          have l2 : j < N := by omega
          by_cases hc : cmpU (g[j + 1]!).id (g[j]!).id < 0
          · have hah : ahR g[j + 1]! g[j]! = true := by rw [← cmp_lt]; simpa using hc
            obtain ⟨u, v, x3⟩ := rw_set_at (d := g) (i := j + 1) (j := j) (x := g[j]!) (by omega)
            simp +contextual -implicitDefEqProofs (maxSteps := 2000000) only [↓wP, wQ, wQ1, wQ2, wQ3, wR, boxE, partsOf, ↓reduceIte, n1w, n2w, n3w, n4w, n5w, n6w, reduceCtorEq, i1w, i2w, i3w, i4w, i5w, k2, k3, k4, k5, k6, k7, hja', w3, hat, l1, l2, x1, x2, x3, hF, hc]
            refine ⟨(j, swp g (j + 1) j), by dsimp only; omega, rfl, by dsimp only; omega, by rw [swp_size, k9], k10.swp _ _, ?_⟩
            dsimp only
            rw [← insIn_lt hja hah]
            exact k11
          · have hah : ahR g[j + 1]! g[j]! = false := by rw [← cmp_lt]; simpa using hc
            simp +contextual -implicitDefEqProofs (maxSteps := 2000000) only [↓wP, wQ, wQ1, wQ2, wQ3, wR, boxE, partsOf, ↓reduceIte, n1w, n2w, n3w, n4w, n5w, n6w, reduceCtorEq, i1w, i2w, i3w, i4w, i5w, k2, k3, k4, k5, k6, k7, hja', w3, hat, l1, l2, x1, x2, hF, hc, w2]
            refine ⟨(i + 1, g), by dsimp only; omega, rfl, by dsimp only; omega, by dsimp only; omega, k9, k10, ?_⟩
            dsimp only
            rw [insIn_stop (.inr ⟨by omega, hah⟩)] at k11
            rw [k11]
            exact h11
        · have hja' : ¬ (a : Int) < (j : Int) := by omega
          simp +contextual -implicitDefEqProofs (maxSteps := 2000000) only [↓wP, wQ, wQ1, wQ2, wQ3, wR, boxE, partsOf, ↓reduceIte, n1w, n2w, n3w, n4w, n5w, n6w, reduceCtorEq, i1w, i2w, i3w, i4w, i5w, k2, k3, k4, k5, k6, k7, hja', w2]
          refine ⟨(i + 1, g), by dsimp only; omega, rfl, by dsimp only; omega, by dsimp only; omega, k9, k10, ?_⟩
          dsimp only
          rw [insIn_stop (.inl (by omega))] at k11
          rw [k11]
          exact h11
      · simp +contextual -implicitDefEqProofs (maxSteps := 2000000) only [↓wP, wQ, wQ1, wQ2, wQ3, wR, boxE, partsOf, ↓reduceIte, n1w, n2w, n3w, n4w, n5w, n6w, reduceCtorEq, i1w, i2w, i3w, i4w, i5w, h2, h3, h4, h5, h6]
        exact ⟨h9, h10⟩
    · have hlt' : ¬ (i : Int) < (b : Int) := by omega
      rw [insOuter, if_neg hlt] at h11
      simp +contextual -implicitDefEqProofs (maxSteps := 2000000) only [↓wP, wQ, wQ1, wQ2, wQ3, wR, boxE, partsOf, ↓reduceIte, n1w, n2w, n3w, n4w, n5w, n6w, reduceCtorEq, i1w, i2w, i3w, i4w, i5w, h2, h3, h4, h5, h6, hlt']
      refine hQ _ ?_
      rw [← h11]
      exact h10
  · simp +contextual -implicitDefEqProofs (maxSteps := 2000000) only [↓wP, wQ, wQ1, wQ2, wQ3, wR, boxE, partsOf, ↓reduceIte, n1w, n2w, n3w, n4w, n5w, n6w, reduceCtorEq, i1w, i2w, i3w, i4w, i5w]
    exact ⟨by omega, .inr trivial, hsz, At.refl hσ, rfl⟩
theorem raw116 (F : Nat) (hF : CmpF F) (d : Array Rw) (a b id n : Nat) (σ : Sto) (hab : a < b) (hb : b ≤ d.size) (hn : d.size < 1000000) (hσ : σ id = some (.row 2 (rw' d))) {Q : V → Sto → Nat → Prop}
    (hQ : ∀ σ' d', At σ' σ id d' → PermIn a b d d' → Q .undef σ' n) :
    run T (.raw 116 [.ref id 0 d.size 2, .int .i64 (a : Int), .int .i64 (b : Int), .fn F []] σ n 0) (memQ Q) := by
  refine run_rawE (fn := g116) rfl rfl ?_
  simp only [g116, b116, oO, oN, mV, lD, gO, pP, qQ, cI, aR]
  have w1 : IntKind.i64.wrap ((b : Int) - 1) = ((b - 1 : Nat) : Int) := by rw [wrap_i64] <;> omega
  have hp : ∀ d' : Array Rw, PermIn a b d d' → d'.size = d.size := fun d' h => h.1
  generalize hsz : d.size = N at *
  simp +contextual -implicitDefEqProofs (maxSteps := 2000000) only [↓wP, wQ, wQ1, wQ2, wQ3, wR, boxE, partsOf, ↓reduceIte, n1w, n2w, n3w, n4w, n5w, n6w, reduceCtorEq, i1w, i2w, i3w, i4w, i5w, w1]
  refine WC_loopI 0 (fun (s : (Nat × Nat) × Array Rw) env σ' n' => n' = n ∧ env 0 = .ref id 0 N 2 ∧ env 8 = .int .i64 (s.1.1 : Int) ∧ env 9 = .int .i64 (s.1.2 : Int) ∧
      a ≤ s.1.1 ∧ s.1.2 < b ∧ At σ' σ id s.2 ∧ PermIn a b d s.2) (fun s => s.1.2) ?_ ((a, b - 1), d) _ _ _ ?_
  · intro ⟨⟨i, j⟩, e⟩ env σ1 n1 ⟨h1, h2, h3, h4, h5, h6, h7, h8⟩
    subst h1
    simp only at h3 h4 h5 h6 h7 h8
    by_cases hlt : i < j
    · obtain ⟨j, rfl⟩ : ∃ j', j = j' + 1 := ⟨j - 1, by omega⟩
      have hlt' : (i : Int) < ((j + 1 : Nat) : Int) := by omega
      have w2 : IntKind.i64.wrap ((i : Int) + 1) = ((i + 1 : Nat) : Int) := by rw [wrap_i64] <;> omega
      have w3 : IntKind.i64.wrap (((j + 1 : Nat) : Int) - 1) = (j : Int) := by rw [wrap_i64] <;> omega
      have he := hp e h8
      have x1 := rw_at (d := e) (i := i) (by omega)
      have x2 := rw_at (d := e) (i := j + 1) (by omega)
      obtain ⟨u, v, x3⟩ := rw_set_at (d := e) (i := i) (j := j + 1) (x := e[j + 1]!) (by omega)
      have l1 : i < N := by omega
      have l2 : j + 1 < N := by omega
      have hat := h7.1
      simp +contextual -implicitDefEqProofs (maxSteps := 2000000) only [↓wP, wQ, wQ1, wQ2, wQ3, wR, boxE, partsOf, ↓reduceIte, n1w, n2w, n3w, n4w, n5w, n6w, reduceCtorEq, i1w, i2w, i3w, i4w, i5w, h2, h3, h4, hlt', w2, w3, x1, x2, x3, l1, l2, hat]
      refine ⟨((i + 1, j), swp e i (j + 1)), by dsimp only; omega, rfl, rfl, by dsimp only; omega, by dsimp only; omega, h7.swp _ _, ?_⟩
      exact permIn_trans _ _ _ _ _ h8 (swp_permIn e a b i (j + 1) h5 (by omega) (by omega) h6 (by omega))
    · have hlt' : ¬ (i : Int) < (j : Int) := by omega
      simp +contextual -implicitDefEqProofs (maxSteps := 2000000) only [↓wP, wQ, wQ1, wQ2, wQ3, wR, boxE, partsOf, ↓reduceIte, n1w, n2w, n3w, n4w, n5w, n6w, reduceCtorEq, i1w, i2w, i3w, i4w, i5w, h2, h3, h4, hlt']
      exact hQ _ _ h7 h8
  · simp +contextual -implicitDefEqProofs (maxSteps := 2000000) only [↓wP, wQ, wQ1, wQ2, wQ3, wR, boxE, partsOf, ↓reduceIte, n1w, n2w, n3w, n4w, n5w, n6w, reduceCtorEq, i1w, i2w, i3w, i4w, i5w]
    exact ⟨by omega, At.refl hσ, permIn_refl _ _ _⟩
theorem bin_shl (k : IntKind) (x : Int) (m : Nat) : ∃ y, binV .shl (.int k x) (.int .u64 (m : Int)) = some (.int k y) := by
  refine ⟨k.wrap (x * 2 ^ (min (m : Int).toNat k.bits)), ?_⟩
  have : ¬ ((m : Int) < 0) := by omega
  simp [binV, pureV, Go.binOp, Op.shift, this]
  rfl
theorem bin_shr (k : IntKind) (x : Int) (m : Nat) : ∃ y, binV .shr (.int k x) (.int .u64 (m : Int)) = some (.int k y) := by
  refine ⟨x.fdiv (2 ^ (min (m : Int).toNat k.bits)), ?_⟩
  have : ¬ ((m : Int) < 0) := by omega
  simp [binV, pureV, Go.binOp, Op.shift, this]
  rfl
theorem bin_and64 (x : Int) (m : Nat) (hm : m < 18446744073709551616) : ∃ y : Nat, y ≤ m ∧ binV .and (.int .u64 x) (.int .u64 (m : Int)) = some (.int .u64 (y : Int)) := by
  have hle : (BitVec.ofInt 64 x &&& BitVec.ofInt 64 (m : Int)).toNat ≤ m := by
    rw [BitVec.toNat_and]
    refine Nat.le_trans Nat.and_le_right ?_
    simp
    exact Nat.mod_le _ _
  refine ⟨(BitVec.ofInt 64 x &&& BitVec.ofInt 64 (m : Int)).toNat, hle, ?_⟩
  have hw : IntKind.u64.wrap ((BitVec.ofInt 64 x &&& BitVec.ofInt 64 (m : Int)).toNat : Int) = ((BitVec.ofInt 64 x &&& BitVec.ofInt 64 (m : Int)).toNat : Int) := by rw [wrap_u64] <;> omega
  have := bin_and .u64 x (m : Int)
  rw [this]
  congr 2
theorem raw125 (F : Nat) (hF : CmpF F) (r : Int) (sid n : Nat) (σ : Sto) (hs : σ sid = some (.row 1 [.int .u64 r])) {Q : V → Sto → Nat → Prop}
    (hQ : ∀ (r' : Int) (σ' : Sto), σ' sid = some (.row 1 [.int .u64 r']) → (∀ i, i ≠ sid → σ' i = σ i) → Q (.int .u64 r') σ' n) :
    run T (.raw 125 [.ptr sid 1 0 0] σ n 0) (memQ Q) := by
  refine run_rawE (fn := g125) rfl rfl ?_
  simp only [g125, b125, oO, oN, mV, lD, gO, pP, qQ, cI, aR]
  obtain ⟨y1, e1⟩ := bin_shl .u64 r 13
  have x1 := bin_xor .u64 r y1
  generalize IntKind.u64.wrap ↑(BitVec.ofInt IntKind.u64.bits r ^^^ BitVec.ofInt IntKind.u64.bits y1).toNat = r1 at x1
  obtain ⟨y2, e2⟩ := bin_shr .u64 r1 7
  have x2 := bin_xor .u64 r1 y2
  generalize IntKind.u64.wrap ↑(BitVec.ofInt IntKind.u64.bits r1 ^^^ BitVec.ofInt IntKind.u64.bits y2).toNat = r2 at x2
  obtain ⟨y3, e3⟩ := bin_shl .u64 r2 17
  have x3 := bin_xor .u64 r2 y3
  generalize IntKind.u64.wrap ↑(BitVec.ofInt IntKind.u64.bits r2 ^^^ BitVec.ofInt IntKind.u64.bits y3).toNat = r3 at x3
  simp only [show ((13 : Nat) : Int) = 13 from rfl, show ((7 : Nat) : Int) = 7 from rfl, show ((17 : Nat) : Int) = 17 from rfl] at e1 e2 e3
  simp +contextual -implicitDefEqProofs (maxSteps := 2000000) only [↓wP, wQ, wQ1, wQ2, wQ3, wR, boxE, partsOf, ↓reduceIte, n1w, n2w, n3w, n4w, n5w, n6w, reduceCtorEq, i1w, i2w, i3w, i4w, i5w, hs, e1, x1, e2, x2, e3, x3]
  exact hQ _ _ (by simp [upd]) (fun i hi => by simp [upd, hi])
def chk124 (m : Nat) : Bool := match exJob T 60 (.pure 124 [.int .i64 (m : Int)]) with
  | some (.val (.int .u64 M)) => decide (0 < M ∧ M ≤ 2 * (m : Int))
  | _ => false
theorem all124 : (List.range 130).all (fun m => decide (m < 8) || chk124 m) = true := by decide +kernel
theorem r124 (m : Nat) (h8 : 8 ≤ m) (h60 : m < 130) : ∃ M : Nat, 0 < M ∧ M ≤ 2 * m ∧ res T 124 [.int .i64 (m : Int)] = some (.int .u64 (M : Int)) := by
  have h := List.all_eq_true.1 all124 m (List.mem_range.2 h60)
  have h8' : ¬ m < 8 := by omega
  simp only [h8', decide_false, Bool.false_or] at h
  unfold chk124 at h
  split at h
  · rename_i M hM
    simp only [decide_eq_true_eq] at h
    refine ⟨M.toNat, by omega, by omega, ?_⟩
    rw [show ((M.toNat : Nat) : Int) = M by omega]
    exact run_res (exJob_sound 60 _ _ hM)
  · cases h
theorem raw114 (F : Nat) (hF : CmpF F) (d : Array Rw) (a b id n : Nat) (σ : Sto) (h8 : 8 ≤ b - a) (h60 : b - a < 130) (hb : b ≤ d.size) (hn : d.size < 1000000) (hid : id < n) (hσ : σ id = some (.row 2 (rw' d))) {Q : V → Sto → Nat → Prop}
    (hQ : ∀ σ' d' n', n ≤ n' → σ' id = some (.row 2 (rw' d')) → (∀ i, i ≠ id → i < n → σ' i = σ i) → PermIn a b d d' → Q .undef σ' n') :
    run T (.raw 114 [.ref id 0 d.size 2, .int .i64 (a : Int), .int .i64 (b : Int), .fn F []] σ n 0) (memQ Q) := by
  refine run_rawE (fn := g114) rfl rfl ?_
  simp only [g114, b114, oO, oN, mV, lD, gO, pP, qQ, cI, aR]
  have hp : ∀ d' : Array Rw, PermIn a b d d' → d'.size = d.size := fun d' h => h.1
  obtain ⟨L, hL⟩ : ∃ L, L = b - a := ⟨_, rfl⟩
  have w1 : IntKind.i64.wrap ((b : Int) - (a : Int)) = (L : Int) := by rw [wrap_i64] <;> omega
  have c8 : (8 : Int) ≤ (L : Int) := by omega
  obtain ⟨M, hM1, hM2, hM⟩ := r124 L (by omega) (by omega)
  have f124 := callE_tr (fs := true) (by decide) hM (by simp [Tr]) rfl
  have q4 := bin_quo4 L (by omega)
  have wu : IntKind.u64.wrap (L : Int) = (L : Int) := by rw [wrap_u64] <;> omega
  have w2 : IntKind.i64.wrap (((L / 4 : Nat) : Int) * 2) = ((L / 4 * 2 : Nat) : Int) := by rw [wrap_i64] <;> omega
  obtain ⟨t, ht⟩ : ∃ t, t = a + L / 4 * 2 := ⟨_, rfl⟩
  have w3 : IntKind.i64.wrap ((a : Int) + ((L / 4 * 2 : Nat) : Int)) = (t : Int) := by rw [wrap_i64] <;> omega
  have w4 : IntKind.i64.wrap ((t : Int) - 1) = ((t - 1 : Nat) : Int) := by rw [wrap_i64] <;> omega
  have w5 : IntKind.i64.wrap ((t : Int) + 1) = ((t + 1 : Nat) : Int) := by rw [wrap_i64] <;> omega
  have wm : IntKind.u64.wrap ((M : Int) - 1) = ((M - 1 : Nat) : Int) := by rw [wrap_u64] <;> omega
  have hidn : (id = n) = False := by simp; omega
  generalize hsz : d.size = N at *
  simp +contextual -implicitDefEqProofs (maxSteps := 2000000) only [↓wP, wQ, wQ1, wQ2, wQ3, wR, boxE, partsOf, ↓reduceIte, n1w, n2w, n3w, n4w, n5w, n6w, reduceCtorEq, i1w, i2w, i3w, i4w, i5w, w1, c8, wu, f124, q4, w2, w3, w4, w5]
  refine WC_loopI 0 (fun (s : Nat × (Array Rw × Int)) env σ' n' => n' = n + 1 ∧ env 0 = .ref id 0 N 2 ∧ env 1 = .int .i64 (a : Int) ∧ env 8 = .int .i64 (L : Int) ∧ env 9 = .ptr n 1 0 0 ∧ env 10 = .int .u64 (M : Int) ∧ env 11 = .int .i64 (s.1 : Int) ∧
      a ≤ s.1 ∧ s.1 ≤ t + 2 ∧ σ' id = some (.row 2 (rw' s.2.1)) ∧ σ' n = some (.row 1 [.int .u64 s.2.2]) ∧ (∀ i, i ≠ id → i < n → σ' i = σ i) ∧ PermIn a b d s.2.1) (fun s => t + 3 - s.1) ?_ (t - 1, (d, (L : Int))) _ _ _ ?_
  · intro ⟨i, e, r⟩ env σ1 n1 ⟨h1, h2, h3, h4, h5, h6, h7, h8', h9, h10, h11, h12, h13⟩
    subst h1
    simp only at h7 h8' h9 h10 h11 h13
    have he := hp e h13
    by_cases hlt : i ≤ t + 1
    · have hlt' : (i : Int) ≤ ((t + 1 : Nat) : Int) := by omega
      have wi : IntKind.i64.wrap ((i : Int) + 1) = ((i + 1 : Nat) : Int) := by rw [wrap_i64] <;> omega
      simp +contextual -implicitDefEqProofs (maxSteps := 2000000) only [↓wP, wQ, wQ1, wQ2, wQ3, wR, boxE, partsOf, ↓reduceIte, n1w, n2w, n3w, n4w, n5w, n6w, reduceCtorEq, i1w, i2w, i3w, i4w, i5w, h2, h3, h4, h5, h6, h7, q4, w2, w3, w5, hlt']
      refine stepW_raw (by decide) (raw125 F hF r n (n + 1) σ1 h11 fun r' σ2 g1 g2 => ?_)
      obtain ⟨y, hy, ey⟩ := bin_and64 r' (M - 1) (by omega)
      have hg : σ2 id = some (.row 2 (rw' e)) := by rw [g2 id (by omega), h10]
      have wy : IntKind.i64.wrap (y : Int) = (y : Int) := by rw [wrap_i64] <;> omega
      have x1 := rw_at (d := e) (i := i) (by omega)
      have l1 : i < N := by omega
      by_cases hge : L ≤ y
      · have hge' : (L : Int) ≤ (y : Int) := by omega
        have wd : IntKind.i64.wrap ((y : Int) - (L : Int)) = ((y - L : Nat) : Int) := by rw [wrap_i64] <;> omega
        have wa : IntKind.i64.wrap ((a : Int) + ((y - L : Nat) : Int)) = ((a + (y - L) : Nat) : Int) := by rw [wrap_i64] <;> omega
        have x2 := rw_at (d := e) (i := a + (y - L)) (by omega)
        have l2 : a + (y - L) < N := by omega
        obtain ⟨u, v, x3⟩ := rw_set_at (d := e) (i := i) (j := a + (y - L)) (x := e[a + (y - L)]!) (by omega)
        simp +contextual -implicitDefEqProofs (maxSteps := 2000000) only [↓wP, wQ, wQ1, wQ2, wQ3, wR, boxE, partsOf, ↓reduceIte, n1w, n2w, n3w, n4w, n5w, n6w, reduceCtorEq, i1w, i2w, i3w, i4w, i5w, h2, h3, h4, h5, h6, h7, wm, ey, wy, hge', wd, wa, hg, x1, x2, x3, l1, l2, wi, hidn]
        refine ⟨(i + 1, (swp e i (a + (y - L)), r')), by dsimp only; omega, rfl, by dsimp only; omega, by dsimp only; omega, ?_, ?_, ?_, ?_⟩
        · dsimp only; rw [rw_swp]
        · have a1 : n ≠ id := by omega
          simp only [a1, if_false]; exact g1
        · intro k hk hkn
          rw [g2 k (by omega), h12 k hk hkn]
        · exact permIn_trans _ _ _ _ _ h13 (swp_permIn e a b i (a + (y - L)) h8' (by omega) (by omega) (by omega) (by omega))
      · have hge' : ¬ (L : Int) ≤ (y : Int) := by omega
        have wa : IntKind.i64.wrap ((a : Int) + (y : Int)) = ((a + y : Nat) : Int) := by rw [wrap_i64] <;> omega
        have x2 := rw_at (d := e) (i := a + y) (by omega)
        have l2 : a + y < N := by omega
        obtain ⟨u, v, x3⟩ := rw_set_at (d := e) (i := i) (j := a + y) (x := e[a + y]!) (by omega)
        simp +contextual -implicitDefEqProofs (maxSteps := 2000000) only [↓wP, wQ, wQ1, wQ2, wQ3, wR, boxE, partsOf, ↓reduceIte, n1w, n2w, n3w, n4w, n5w, n6w, reduceCtorEq, i1w, i2w, i3w, i4w, i5w, h2, h3, h4, h5, h6, h7, wm, ey, wy, hge', wa, hg, x1, x2, x3, l1, l2, wi, hidn]
        refine ⟨(i + 1, (swp e i (a + y), r')), by dsimp only; omega, rfl, by dsimp only; omega, by dsimp only; omega, ?_, ?_, ?_, ?_⟩
        · dsimp only; rw [rw_swp]
        · have a1 : n ≠ id := by omega
          simp only [a1, if_false]; exact g1
        · intro k hk hkn
          rw [g2 k (by omega), h12 k hk hkn]
        · exact permIn_trans _ _ _ _ _ h13 (swp_permIn e a b i (a + y) h8' (by omega) (by omega) (by omega) (by omega))
    · have hlt' : ¬ (i : Int) ≤ ((t + 1 : Nat) : Int) := by omega
      simp +contextual -implicitDefEqProofs (maxSteps := 2000000) only [↓wP, wQ, wQ1, wQ2, wQ3, wR, boxE, partsOf, ↓reduceIte, n1w, n2w, n3w, n4w, n5w, n6w, reduceCtorEq, i1w, i2w, i3w, i4w, i5w, h2, h3, h4, h5, h6, h7, q4, w2, w3, w5, hlt']
      exact hQ _ e _ (by omega) h10 h12 h13
  · simp +contextual -implicitDefEqProofs (maxSteps := 2000000) only [↓wP, wQ, wQ1, wQ2, wQ3, wR, boxE, partsOf, ↓reduceIte, n1w, n2w, n3w, n4w, n5w, n6w, reduceCtorEq, i1w, i2w, i3w, i4w, i5w, hidn]
    refine ⟨by omega, by omega, hσ, fun i h1 h2 => ?_, permIn_refl _ _ _⟩
    have a1 : i ≠ n := by omega
    simp only [a1, if_false]
end Go.Q.SB
end

section
/- The partitions of a sort. -/
set_option linter.unusedSimpArgs false
set_option linter.unusedVariables false
namespace Go.Q.SB
open Go.Q Go.Sort
open Nat renaming reduceEqDiff → n1w, reduceAdd → n2w, reduceSub → n3w, reduceLeDiff → n4w, reduceLT → n5w, reduceMul → n6w
open Int renaming reduceBNe → i1w, reduceBEq → i2w, reduceLT → i3w, reduceLE → i4w, reduceGT → i5w
theorem su_go {p : Rw → Bool} {d : Array Rw} {i j : Nat} (h : i ≤ j) (hp : p d[i]! = true) : scanUp p d j (i + 1) = scanUp p d j i := by
  conv => rhs; rw [scanUp]
  rw [if_pos (by simp [h, hp])]
theorem su_stop {p : Rw → Bool} {d : Array Rw} {i j : Nat} (h : ¬ i ≤ j ∨ p d[i]! = false) : scanUp p d j i = i := by
  rw [scanUp]
  rcases h with h | h <;> simp [h]
theorem sd_go {p : Rw → Bool} {d : Array Rw} {i j : Nat} (h : i ≤ j + 1) (hp : p d[j + 1]! = true) : scanDown p d i j = scanDown p d i (j + 1) := by
  conv => rhs; rw [scanDown]
  rw [if_pos (by simp [h, hp])]
theorem sd_stop {p : Rw → Bool} {d : Array Rw} {i j : Nat} (h : ¬ i ≤ j ∨ p d[j]! = false) : scanDown p d i j = j := by
  cases j with
  | zero => rfl
  | succ j =>
    rw [scanDown]
    rcases h with h | h
    · simp [h]
    · simp [h]
theorem raw118 (F : Nat) (hF : CmpF F) (d : Array Rw) (a b p id n : Nat) (σ : Sto) (hap : a ≤ p) (hpb : p < b) (hb : b ≤ d.size) (hn : d.size < 1000000) (hσ : σ id = some (.row 2 (rw' d))) {Q : V → Sto → Nat → Prop}
    (hQ : ∀ σ', At σ' σ id (partitionEqual ahR d a b p).2 → Q (.int .i64 ((partitionEqual ahR d a b p).1 : Int)) σ' n) :
    run T (.raw 118 [.ref id 0 d.size 2, .int .i64 (a : Int), .int .i64 (b : Int), .int .i64 (p : Int), .fn F []] σ n 0) (memQ Q) := by
  refine run_rawE (fn := g118) rfl rfl ?_
  simp only [g118, b118, oO, oN, mV, lD, gO, pP, qQ, cI, aR]
  have w1 : IntKind.i64.wrap ((a : Int) + 1) = ((a + 1 : Nat) : Int) := by rw [wrap_i64] <;> omega
  have w2 : IntKind.i64.wrap ((b : Int) - 1) = ((b - 1 : Nat) : Int) := by rw [wrap_i64] <;> omega
  have y1 := rw_at (d := d) (i := a) (by omega)
  have y2 := rw_at (d := d) (i := p) (by omega)
  obtain ⟨u, v, y3⟩ := rw_set_at (d := d) (i := a) (j := p) (x := d[p]!) (by omega)
  have hat0 := (At.refl hσ).swp a p
  have hs0 : (swp d a p).size = d.size := swp_size _ _ _
  unfold partitionEqual at hQ
  generalize hsz : d.size = N at *
  have m1 : a < N := by omega
  have m2 : p < N := by omega
  simp +contextual -implicitDefEqProofs (maxSteps := 2000000) only [↓wP, wQ, wQ1, wQ2, wQ3, wR, boxE, partsOf, ↓reduceIte, n1w, n2w, n3w, n4w, n5w, n6w, reduceCtorEq, i1w, i2w, i3w, i4w, i5w, w1, w2, y1, y2, y3, m1, m2, hσ]
  generalize (upd (upd σ id (some (.row 2 ((rw' d).set a (.agg [.int .u64 (d[p]!).id, slV 1 i32V (d[p]!).v]))))) id
      (some (.row 2 (((rw' d).set a (.agg [.int .u64 (d[p]!).id, slV 1 i32V (d[p]!).v])).set p (.agg [.int .u64 (d[a]!).id, slV 1 i32V (d[a]!).v]))))) = σ0 at hat0
  generalize swp d a p = d0 at *
  refine WC_loopI 0 (fun (s : (Nat × Nat) × Array Rw) env σ' n' => n' = n ∧ env 0 = .ref id 0 N 2 ∧ env 1 = .int .i64 (a : Int) ∧ env 4 = .fn F [] ∧ env 11 = .int .i64 (s.1.1 : Int) ∧ env 12 = .int .i64 (s.1.2 : Int) ∧
      a < s.1.1 ∧ s.1.1 ≤ s.1.2 + 2 ∧ s.1.2 < b ∧ s.2.size = N ∧ At σ' σ id s.2 ∧ partEqLoop ahR a s.1.1 s.1.2 s.2 = partEqLoop ahR a (a + 1) (b - 1) d0) (fun s => s.1.2 + 1 - s.1.1) ?_ ((a + 1, b - 1), d0) _ _ _ ?_
  · intro ⟨⟨i, j⟩, e⟩ env σ1 n1 ⟨h1, h2, h3, h4, h5, h6, h7, h8, h9, h10, h11, h12⟩
    subst h1
    simp only at h5 h6 h7 h8 h9 h10 h11 h12
    have hat := h11.1
    have xa := rw_at (d := e) (i := a) (by omega)
    rw [partEqLoop_eq] at h12
    simp +contextual -implicitDefEqProofs (maxSteps := 2000000) only [↓wP, wQ, wQ1, wQ2, wQ3, wR, boxE, partsOf, ↓reduceIte, n1w, n2w, n3w, n4w, n5w, n6w, reduceCtorEq, i1w, i2w, i3w, i4w, i5w]
    refine WC_loopE 2 0 (fun (i' : Nat) env σ' n' => σ' = σ1 ∧ n' = n1 ∧ env 0 = .ref id 0 N 2 ∧ env 1 = .int .i64 (a : Int) ∧ env 4 = .fn F [] ∧ env 11 = .int .i64 (i' : Int) ∧ env 12 = .int .i64 (j : Int) ∧
        i ≤ i' ∧ i' ≤ j + 2 ∧ scanUp (fun x => !ahR e[a]! x) e j i' = scanUp (fun x => !ahR e[a]! x) e j i) (fun i' => j + 1 - i')
      (fun env σ' n' => σ' = σ1 ∧ n' = n1 ∧ env 0 = .ref id 0 N 2 ∧ env 1 = .int .i64 (a : Int) ∧ env 4 = .fn F [] ∧ env 11 = .int .i64 ((scanUp (fun x => !ahR e[a]! x) e j i : Nat) : Int) ∧ env 12 = .int .i64 (j : Int) ∧ scanUp (fun x => !ahR e[a]! x) e j i ≤ j + 2) ?_ ?_ i _ _ _ ?_
    · clear h2 h3 h4 h5 h6
      intro i' env σ2 n2 ⟨k1, k2, k3, k4, k5, k6, k7, k8, k9, k10⟩
      subst k1 k2
      by_cases hle : i' ≤ j
      · have hle' : (i' : Int) ≤ (j : Int) := by omega
        have wi : IntKind.i64.wrap ((i' : Int) + 1) = ((i' + 1 : Nat) : Int) := by rw [wrap_i64] <;> omega
        have x1 := rw_at (d := e) (i := i') (by omega)
        have l1 : i' < N := by omega
        by_cases hc : cmpU (e[a]!).id (e[i']!).id < 0
        · have hah : ahR e[a]! e[i']! = true := by rw [← cmp_lt]; simpa using hc
          have hst := su_stop (p := fun x => !ahR e[a]! x) (d := e) (i := i') (j := j) (.inr (by simp [hah]))
          rw [hst] at k10
          rw [← k10]
          simp +contextual -implicitDefEqProofs (maxSteps := 2000000) only [↓wP, wQ, wQ1, wQ2, wQ3, wR, boxE, partsOf, ↓reduceIte, n1w, n2w, n3w, n4w, n5w, n6w, reduceCtorEq, i1w, i2w, i3w, i4w, i5w, exQ_exit, k3, k4, k5, k6, k7, hle', hat, m1, l1, xa, x1, hF, hc]
          omega
        · have hah : ahR e[a]! e[i']! = false := by rw [← cmp_lt]; simpa using hc
          simp +contextual -implicitDefEqProofs (maxSteps := 2000000) only [↓wP, wQ, wQ1, wQ2, wQ3, wR, boxE, partsOf, ↓reduceIte, n1w, n2w, n3w, n4w, n5w, n6w, reduceCtorEq, i1w, i2w, i3w, i4w, i5w, exQ_exit, k3, k4, k5, k6, k7, hle', hat, m1, l1, xa, x1, hF, hc, wi]
          exact ⟨i' + 1, by omega, rfl, by omega, by omega, by rw [su_go hle (by simp [hah])]; exact k10⟩
      · have hle' : ¬ (i' : Int) ≤ (j : Int) := by omega
        have hst := su_stop (p := fun x => !ahR e[a]! x) (d := e) (i := i') (j := j) (.inl hle)
        rw [hst] at k10
        rw [← k10]
        simp +contextual -implicitDefEqProofs (maxSteps := 2000000) only [↓wP, wQ, wQ1, wQ2, wQ3, wR, boxE, partsOf, ↓reduceIte, n1w, n2w, n3w, n4w, n5w, n6w, reduceCtorEq, i1w, i2w, i3w, i4w, i5w, exQ_exit, k3, k4, k5, k6, k7, hle']
        omega
    · clear h2 h3 h4 h5 h6
      intro env σ2 n2 ⟨k1, k2, h2, h3, h4, h5, h6, k8⟩
      subst k1 k2
      have hge := scanUp_ge (fun x => !ahR e[a]! x) e j i
      generalize scanUp (fun x => !ahR e[a]! x) e j i = i2 at *
      simp +contextual -implicitDefEqProofs (maxSteps := 2000000) only [↓wP, wQ, wQ1, wQ2, wQ3, wR, boxE, partsOf, ↓reduceIte, n1w, n2w, n3w, n4w, n5w, n6w, reduceCtorEq, i1w, i2w, i3w, i4w, i5w]
      refine WC_loopE 4 0 (fun (j' : Nat) env σ' n' => σ' = σ2 ∧ n' = n2 ∧ env 0 = .ref id 0 N 2 ∧ env 1 = .int .i64 (a : Int) ∧ env 4 = .fn F [] ∧ env 11 = .int .i64 (i2 : Int) ∧ env 12 = .int .i64 (j' : Int) ∧
          j' ≤ j ∧ i2 ≤ j' + 2 ∧ scanDown (fun x => ahR e[a]! x) e i2 j' = scanDown (fun x => ahR e[a]! x) e i2 j) (fun j' => j')
        (fun env σ' n' => σ' = σ2 ∧ n' = n2 ∧ env 0 = .ref id 0 N 2 ∧ env 1 = .int .i64 (a : Int) ∧ env 4 = .fn F [] ∧ env 11 = .int .i64 (i2 : Int) ∧ env 12 = .int .i64 ((scanDown (fun x => ahR e[a]! x) e i2 j : Nat) : Int) ∧ i2 ≤ scanDown (fun x => ahR e[a]! x) e i2 j + 2) ?_ ?_ j _ _ _ ?_
      · clear h2 h3 h4 h5 h6
        intro j' env σ3 n3 ⟨k1, k2, k3, k4, k5, k6, k7, k8, k9, k10⟩
        subst k1 k2
        by_cases hle : i2 ≤ j'
        · have hle' : (i2 : Int) ≤ (j' : Int) := by omega
          obtain ⟨j', rfl⟩ : ∃ q, j' = q + 1 := ⟨j' - 1, by omega⟩
          have wi : IntKind.i64.wrap (((j' + 1 : Nat) : Int) - 1) = (j' : Int) := by rw [wrap_i64] <;> omega
          have x1 := rw_at (d := e) (i := j' + 1) (by omega)
          have l1 : j' + 1 < N := by omega
          by_cases hc : cmpU (e[a]!).id (e[j' + 1]!).id < 0
          · have hah : ahR e[a]! e[j' + 1]! = true := by rw [← cmp_lt]; simpa using hc
            simp +contextual -implicitDefEqProofs (maxSteps := 2000000) only [↓wP, wQ, wQ1, wQ2, wQ3, wR, boxE, partsOf, ↓reduceIte, n1w, n2w, n3w, n4w, n5w, n6w, reduceCtorEq, i1w, i2w, i3w, i4w, i5w, exQ_exit, k3, k4, k5, k6, k7, hle', hat, m1, l1, xa, x1, hF, hc, wi]
            exact ⟨j', by omega, rfl, by omega, by omega, by rw [sd_go hle hah]; exact k10⟩
          · have hah : ahR e[a]! e[j' + 1]! = false := by rw [← cmp_lt]; simpa using hc
            have hst := sd_stop (p := fun x => ahR e[a]! x) (d := e) (i := i2) (j := j' + 1) (.inr hah)
            rw [hst] at k10
            rw [← k10]
            simp +contextual -implicitDefEqProofs (maxSteps := 2000000) only [↓wP, wQ, wQ1, wQ2, wQ3, wR, boxE, partsOf, ↓reduceIte, n1w, n2w, n3w, n4w, n5w, n6w, reduceCtorEq, i1w, i2w, i3w, i4w, i5w, exQ_exit, k3, k4, k5, k6, k7, hle', hat, m1, l1, xa, x1, hF, hc]
            omega
        · have hle' : ¬ (i2 : Int) ≤ (j' : Int) := by omega
          have hst := sd_stop (p := fun x => ahR e[a]! x) (d := e) (i := i2) (j := j') (.inl hle)
          rw [hst] at k10
          rw [← k10]
          simp +contextual -implicitDefEqProofs (maxSteps := 2000000) only [↓wP, wQ, wQ1, wQ2, wQ3, wR, boxE, partsOf, ↓reduceIte, n1w, n2w, n3w, n4w, n5w, n6w, reduceCtorEq, i1w, i2w, i3w, i4w, i5w, exQ_exit, k3, k4, k5, k6, k7, hle']
          omega
      · clear h2 h3 h4 h5 h6
        intro env σ3 n3 ⟨k1, k2, h2, h3, h4, h5, h6, k9⟩
        subst k1 k2
        have hle := scanDown_le (fun x => ahR e[a]! x) e i2 j
        generalize scanDown (fun x => ahR e[a]! x) e i2 j = j2 at *
        by_cases hgt : j2 < i2
        · have hgt' : (j2 : Int) < (i2 : Int) := by omega
          rw [if_pos hgt] at h12
          simp +contextual -implicitDefEqProofs (maxSteps := 2000000) only [↓wP, wQ, wQ1, wQ2, wQ3, wR, boxE, partsOf, ↓reduceIte, n1w, n2w, n3w, n4w, n5w, n6w, reduceCtorEq, i1w, i2w, i3w, i4w, i5w, h2, h3, h4, h5, h6, hgt']
          have := hQ σ3
          rw [← h12] at this
          exact this h11
        · have hgt' : ¬ (j2 : Int) < (i2 : Int) := by omega
          rw [if_neg hgt] at h12
          have wi : IntKind.i64.wrap ((i2 : Int) + 1) = ((i2 + 1 : Nat) : Int) := by rw [wrap_i64] <;> omega
          have wj : IntKind.i64.wrap ((j2 : Int) - 1) = ((j2 - 1 : Nat) : Int) := by rw [wrap_i64] <;> omega
          have x1 := rw_at (d := e) (i := i2) (by omega)
          have x2 := rw_at (d := e) (i := j2) (by omega)
          obtain ⟨u, v, x3⟩ := rw_set_at (d := e) (i := i2) (j := j2) (x := e[j2]!) (by omega)
          have l1 : i2 < N := by omega
          have l2 : j2 < N := by omega
          simp +contextual -implicitDefEqProofs (maxSteps := 2000000) only [↓wP, wQ, wQ1, wQ2, wQ3, wR, boxE, partsOf, ↓reduceIte, n1w, n2w, n3w, n4w, n5w, n6w, reduceCtorEq, i1w, i2w, i3w, i4w, i5w, h2, h3, h4, h5, h6, hgt', wi, wj, x1, x2, x3, l1, l2, hat]
          refine ⟨((i2 + 1, j2 - 1), swp e i2 j2), by dsimp only; omega, rfl, rfl, by dsimp only; omega, by dsimp only; omega, by dsimp only; omega, by rw [swp_size, h10], h11.swp _ _, h12⟩
      · simp +contextual -implicitDefEqProofs (maxSteps := 2000000) only [↓wP, wQ, wQ1, wQ2, wQ3, wR, boxE, partsOf, ↓reduceIte, n1w, n2w, n3w, n4w, n5w, n6w, reduceCtorEq, i1w, i2w, i3w, i4w, i5w, h2, h3, h4, h5, h6]
        exact k8
    · simp +contextual -implicitDefEqProofs (maxSteps := 2000000) only [↓wP, wQ, wQ1, wQ2, wQ3, wR, boxE, partsOf, ↓reduceIte, n1w, n2w, n3w, n4w, n5w, n6w, reduceCtorEq, i1w, i2w, i3w, i4w, i5w, h2, h3, h4, h5, h6]
      exact h8
  · simp +contextual -implicitDefEqProofs (maxSteps := 2000000) only [↓wP, wQ, wQ1, wQ2, wQ3, wR, boxE, partsOf, ↓reduceIte, n1w, n2w, n3w, n4w, n5w, n6w, reduceCtorEq, i1w, i2w, i3w, i4w, i5w]
    exact ⟨by omega, by omega, by omega, hs0, hat0⟩
theorem raw119 (F : Nat) (hF : CmpF F) (d : Array Rw) (a b p id n : Nat) (σ : Sto) (hap : a ≤ p) (hpb : p < b) (hb : b ≤ d.size) (hn : d.size < 1000000) (hσ : σ id = some (.row 2 (rw' d))) {Q : V → Sto → Nat → Prop}
    (hQ : ∀ σ', At σ' σ id (partition ahR d a b p).2.2 → Q (.tup [.int .i64 ((partition ahR d a b p).1 : Int), .bool (partition ahR d a b p).2.1]) σ' n) :
    run T (.raw 119 [.ref id 0 d.size 2, .int .i64 (a : Int), .int .i64 (b : Int), .int .i64 (p : Int), .fn F []] σ n 0) (memQ Q) := by
  refine run_rawE (fn := g119) rfl rfl ?_
  simp only [g119, b119, oO, oN, mV, lD, gO, pP, qQ, cI, aR]
  have w1 : IntKind.i64.wrap ((a : Int) + 1) = ((a + 1 : Nat) : Int) := by rw [wrap_i64] <;> omega
  have w2 : IntKind.i64.wrap ((b : Int) - 1) = ((b - 1 : Nat) : Int) := by rw [wrap_i64] <;> omega
  have y1 := rw_at (d := d) (i := a) (by omega)
  have y2 := rw_at (d := d) (i := p) (by omega)
  obtain ⟨u, v, y3⟩ := rw_set_at (d := d) (i := a) (j := p) (x := d[p]!) (by omega)
  have h11 := (At.refl hσ).swp a p
  have h10 : (swp d a p).size = d.size := swp_size _ _ _
  unfold partition at hQ
  generalize hsz : d.size = N at *
  have m1 : a < N := by omega
  have m2 : p < N := by omega
  simp +contextual -implicitDefEqProofs (maxSteps := 2000000) only [↓wP, wQ, wQ1, wQ2, wQ3, wR, boxE, partsOf, ↓reduceIte, n1w, n2w, n3w, n4w, n5w, n6w, reduceCtorEq, i1w, i2w, i3w, i4w, i5w, w1, w2, y1, y2, y3, m1, m2, hσ]
  generalize (upd (upd σ id (some (.row 2 ((rw' d).set a (.agg [.int .u64 (d[p]!).id, slV 1 i32V (d[p]!).v]))))) id
      (some (.row 2 (((rw' d).set a (.agg [.int .u64 (d[p]!).id, slV 1 i32V (d[p]!).v])).set p (.agg [.int .u64 (d[a]!).id, slV 1 i32V (d[a]!).v]))))) = σ1 at h11
  generalize swp d a p = e at *
  simp only [gt_iff_lt] at hQ
  have hat := h11.1
  have xa := rw_at (d := e) (i := a) (by omega)
  obtain ⟨n1, hn1⟩ : ∃ n1, n1 = n := ⟨_, rfl⟩
  rw [← hn1] at hQ ⊢
  have h8 : a + 1 ≤ b - 1 + 2 := by omega
  have h2 : True := trivial
  have h3 : True := trivial
  have h4 : True := trivial
  have h5 : True := trivial
  have h6 : True := trivial
  refine WC_loopE 0 0 (fun (i' : Nat) env σ' n' => σ' = σ1 ∧ n' = n1 ∧ env 0 = .ref id 0 N 2 ∧ env 1 = .int .i64 (a : Int) ∧ env 4 = .fn F [] ∧ env 12 = .int .i64 (i' : Int) ∧ env 13 = .int .i64 ((b - 1 : Nat) : Int) ∧
      a + 1 ≤ i' ∧ i' ≤ b - 1 + 2 ∧ scanUp (fun x => ahR x e[a]!) e (b - 1) i' = scanUp (fun x => ahR x e[a]!) e (b - 1) (a + 1)) (fun i' => b - 1 + 1 - i')
    (fun env σ' n' => σ' = σ1 ∧ n' = n1 ∧ env 0 = .ref id 0 N 2 ∧ env 1 = .int .i64 (a : Int) ∧ env 4 = .fn F [] ∧ env 12 = .int .i64 ((scanUp (fun x => ahR x e[a]!) e (b - 1) (a + 1) : Nat) : Int) ∧ env 13 = .int .i64 ((b - 1 : Nat) : Int) ∧ scanUp (fun x => ahR x e[a]!) e (b - 1) (a + 1) ≤ b - 1 + 2) ?_ ?_ (a + 1) _ _ _ ?_
  · clear h2 h3 h4 h5 h6
    intro i' env σ2 n2 ⟨k1, k2, k3, k4, k5, k6, k7, k8, k9, k10⟩
    subst k1 k2
    by_cases hle : i' ≤ b - 1
    · have hle' : (i' : Int) ≤ ((b - 1 : Nat) : Int) := by omega
      have wi : IntKind.i64.wrap ((i' : Int) + 1) = ((i' + 1 : Nat) : Int) := by rw [wrap_i64] <;> omega
      have x1 := rw_at (d := e) (i := i') (by omega)
      have l1 : i' < N := by omega
      by_cases hc : cmpU (e[i']!).id (e[a]!).id < 0
      · have hah : ahR e[i']! e[a]! = true := by rw [← cmp_lt]; simpa using hc
        simp +contextual -implicitDefEqProofs (maxSteps := 2000000) only [↓wP, wQ, wQ1, wQ2, wQ3, wR, boxE, partsOf, ↓reduceIte, n1w, n2w, n3w, n4w, n5w, n6w, reduceCtorEq, i1w, i2w, i3w, i4w, i5w, exQ_exit, k3, k4, k5, k6, k7, hle', hat, m1, l1, xa, x1, hF, hc, wi]
        exact ⟨i' + 1, by omega, rfl, by omega, by omega, by rw [su_go hle (by simp [hah])]; exact k10⟩
      · have hah : ahR e[i']! e[a]! = false := by rw [← cmp_lt]; simpa using hc
        have hst := su_stop (p := (fun x => ahR x e[a]!)) (d := e) (i := i') (j := b - 1) (.inr (by simp [hah]))
        rw [hst] at k10
        rw [← k10]
        simp +contextual -implicitDefEqProofs (maxSteps := 2000000) only [↓wP, wQ, wQ1, wQ2, wQ3, wR, boxE, partsOf, ↓reduceIte, n1w, n2w, n3w, n4w, n5w, n6w, reduceCtorEq, i1w, i2w, i3w, i4w, i5w, exQ_exit, k3, k4, k5, k6, k7, hle', hat, m1, l1, xa, x1, hF, hc]
        omega
    · have hle' : ¬ (i' : Int) ≤ ((b - 1 : Nat) : Int) := by omega
      have hst := su_stop (p := (fun x => ahR x e[a]!)) (d := e) (i := i') (j := b - 1) (.inl hle)
      rw [hst] at k10
      rw [← k10]
      simp +contextual -implicitDefEqProofs (maxSteps := 2000000) only [↓wP, wQ, wQ1, wQ2, wQ3, wR, boxE, partsOf, ↓reduceIte, n1w, n2w, n3w, n4w, n5w, n6w, reduceCtorEq, i1w, i2w, i3w, i4w, i5w, exQ_exit, k3, k4, k5, k6, k7, hle']
      omega
  · clear h2 h3 h4 h5 h6
    intro env σ2 n2 ⟨k1, k2, h2, h3, h4, h5, h6, k8⟩
    subst k1 k2
    have hge := scanUp_ge (fun x => ahR x e[a]!) e (b - 1) (a + 1)
    generalize scanUp (fun x => ahR x e[a]!) e (b - 1) (a + 1) = i2 at *
    simp +contextual -implicitDefEqProofs (maxSteps := 2000000) only [↓wP, wQ, wQ1, wQ2, wQ3, wR, boxE, partsOf, ↓reduceIte, n1w, n2w, n3w, n4w, n5w, n6w, reduceCtorEq, i1w, i2w, i3w, i4w, i5w]
    refine WC_loopE 2 0 (fun (j' : Nat) env σ' n' => σ' = σ2 ∧ n' = n2 ∧ env 0 = .ref id 0 N 2 ∧ env 1 = .int .i64 (a : Int) ∧ env 4 = .fn F [] ∧ env 12 = .int .i64 (i2 : Int) ∧ env 13 = .int .i64 (j' : Int) ∧
        j' ≤ b - 1 ∧ i2 ≤ j' + 2 ∧ scanDown (fun x => !ahR x e[a]!) e i2 j' = scanDown (fun x => !ahR x e[a]!) e i2 (b - 1)) (fun j' => j')
      (fun env σ' n' => σ' = σ2 ∧ n' = n2 ∧ env 0 = .ref id 0 N 2 ∧ env 1 = .int .i64 (a : Int) ∧ env 4 = .fn F [] ∧ env 12 = .int .i64 (i2 : Int) ∧ env 13 = .int .i64 ((scanDown (fun x => !ahR x e[a]!) e i2 (b - 1) : Nat) : Int) ∧ i2 ≤ scanDown (fun x => !ahR x e[a]!) e i2 (b - 1) + 2) ?_ ?_ (b - 1) _ _ _ ?_
    · clear h2 h3 h4 h5 h6
      intro j' env σ3 n3 ⟨k1, k2, k3, k4, k5, k6, k7, k8, k9, k10⟩
      subst k1 k2
      by_cases hle : i2 ≤ j'
      · have hle' : (i2 : Int) ≤ (j' : Int) := by omega
        obtain ⟨j', rfl⟩ : ∃ q, j' = q + 1 := ⟨j' - 1, by omega⟩
        have wi : IntKind.i64.wrap (((j' + 1 : Nat) : Int) - 1) = (j' : Int) := by rw [wrap_i64] <;> omega
        have x1 := rw_at (d := e) (i := j' + 1) (by omega)
        have l1 : j' + 1 < N := by omega
        by_cases hc : cmpU (e[j' + 1]!).id (e[a]!).id < 0
        · have hah : ahR e[j' + 1]! e[a]! = true := by rw [← cmp_lt]; simpa using hc
          have hst := sd_stop (p := (fun x => !ahR x e[a]!)) (d := e) (i := i2) (j := j' + 1) (.inr (by simp [hah]))
          rw [hst] at k10
          rw [← k10]
          simp +contextual -implicitDefEqProofs (maxSteps := 2000000) only [↓wP, wQ, wQ1, wQ2, wQ3, wR, boxE, partsOf, ↓reduceIte, n1w, n2w, n3w, n4w, n5w, n6w, reduceCtorEq, i1w, i2w, i3w, i4w, i5w, exQ_exit, k3, k4, k5, k6, k7, hle', hat, m1, l1, xa, x1, hF, hc]
          omega
        · have hah : ahR e[j' + 1]! e[a]! = false := by rw [← cmp_lt]; simpa using hc
          simp +contextual -implicitDefEqProofs (maxSteps := 2000000) only [↓wP, wQ, wQ1, wQ2, wQ3, wR, boxE, partsOf, ↓reduceIte, n1w, n2w, n3w, n4w, n5w, n6w, reduceCtorEq, i1w, i2w, i3w, i4w, i5w, exQ_exit, k3, k4, k5, k6, k7, hle', hat, m1, l1, xa, x1, hF, hc, wi]
          exact ⟨j', by omega, rfl, by omega, by omega, by rw [sd_go hle (by simp [hah])]; exact k10⟩
      · have hle' : ¬ (i2 : Int) ≤ (j' : Int) := by omega
        have hst := sd_stop (p := (fun x => !ahR x e[a]!)) (d := e) (i := i2) (j := j') (.inl hle)
        rw [hst] at k10
        rw [← k10]
        simp +contextual -implicitDefEqProofs (maxSteps := 2000000) only [↓wP, wQ, wQ1, wQ2, wQ3, wR, boxE, partsOf, ↓reduceIte, n1w, n2w, n3w, n4w, n5w, n6w, reduceCtorEq, i1w, i2w, i3w, i4w, i5w, exQ_exit, k3, k4, k5, k6, k7, hle']
        omega
    · clear h2 h3 h4 h5 h6
      intro env σ3 n3 ⟨k1, k2, h2, h3, h4, h5, h6, k9⟩
      subst k1 k2
      have hle := scanDown_le (fun x => !ahR x e[a]!) e i2 (b - 1)
      generalize scanDown (fun x => !ahR x e[a]!) e i2 (b - 1) = j2 at *
      by_cases hgt : j2 < i2
      · have hgt' : (j2 : Int) < (i2 : Int) := by omega
        have x1 := rw_at (d := e) (i := j2) (by omega)
        have x2 := rw_at (d := e) (i := a) (by omega)
        obtain ⟨u, v, x3⟩ := rw_set_at (d := e) (i := j2) (j := a) (x := e[a]!) (by omega)
        have l1 : j2 < N := by omega
        have l2 : a < N := by omega
        simp +contextual -implicitDefEqProofs (maxSteps := 2000000) only [↓wP, wQ, wQ1, wQ2, wQ3, wR, boxE, partsOf, ↓reduceIte, n1w, n2w, n3w, n4w, n5w, n6w, reduceCtorEq, i1w, i2w, i3w, i4w, i5w, h2, h3, h4, h5, h6, hgt', x1, x2, x3, l1, l2, hat]
        rw [if_pos hgt] at hQ
        exact hQ _ (h11.swp _ _)
      · have hgt' : ¬ (j2 : Int) < (i2 : Int) := by omega
        rw [if_neg hgt] at hQ
        have wi : IntKind.i64.wrap ((i2 : Int) + 1) = ((i2 + 1 : Nat) : Int) := by rw [wrap_i64] <;> omega
        have wj : IntKind.i64.wrap ((j2 : Int) - 1) = ((j2 - 1 : Nat) : Int) := by rw [wrap_i64] <;> omega
        have x1 := rw_at (d := e) (i := i2) (by omega)
        have x2 := rw_at (d := e) (i := j2) (by omega)
        obtain ⟨u, v, x3⟩ := rw_set_at (d := e) (i := i2) (j := j2) (x := e[j2]!) (by omega)
        have l1 : i2 < N := by omega
        have l2 : j2 < N := by omega
        have hat1 := h11.swp i2 j2
        have hs1 : (swp e i2 j2).size = N := by rw [swp_size, h10]
        simp +contextual -implicitDefEqProofs (maxSteps := 2000000) only [↓wP, wQ, wQ1, wQ2, wQ3, wR, boxE, partsOf, ↓reduceIte, n1w, n2w, n3w, n4w, n5w, n6w, reduceCtorEq, i1w, i2w, i3w, i4w, i5w, h2, h3, h4, h5, h6, hgt', wi, wj, x1, x2, x3, l1, l2, hat]
        generalize (upd (upd σ3 id (some (.row 2 ((rw' e).set i2 (.agg [.int .u64 (e[j2]!).id, slV 1 i32V (e[j2]!).v]))))) id
            (some (.row 2 (((rw' e).set i2 (.agg [.int .u64 (e[j2]!).id, slV 1 i32V (e[j2]!).v])).set j2 (.agg [.int .u64 (e[i2]!).id, slV 1 i32V (e[i2]!).v]))))) = σ5 at hat1
        generalize swp e i2 j2 = d1 at *
        have hR : ∀ (j3 : Nat) (e : Array Rw), (j3, e) = partLoop ahR a (i2 + 1) (j2 - 1) d1 → e.size = N → j3 < b → ∀ σ', At σ' σ id (swp e j3 a) → Q (.tup [.int .i64 (j3 : Int), .bool false]) σ' n3 := by
          intro j3 e h1 _ _ σ' h4
          rw [← h1] at hQ
          exact hQ _ h4
        generalize i2 = i0 at *
        generalize j2 = j0 at *
        clear x1 x2 x3 l1 l2 k8 k9 h10 h11 hgt' wi wj
        refine WC_loopI 0 (fun (s : (Nat × Nat) × Array Rw) env σ' n' => n' = n3 ∧ env 0 = .ref id 0 N 2 ∧ env 1 = .int .i64 (a : Int) ∧ env 4 = .fn F [] ∧ env 12 = .int .i64 (s.1.1 : Int) ∧ env 13 = .int .i64 (s.1.2 : Int) ∧
            a < s.1.1 ∧ s.1.1 ≤ s.1.2 + 2 ∧ s.1.2 < b ∧ s.2.size = N ∧ At σ' σ id s.2 ∧ partLoop ahR a s.1.1 s.1.2 s.2 = partLoop ahR a (i0 + 1) (j0 - 1) d1) (fun s => s.1.2 + 1 - s.1.1) ?_ ((i0 + 1, j0 - 1), d1) _ _ _ ?_
        · clear hat xa
          intro ⟨⟨i, j⟩, e⟩ env σ1 n1 ⟨h1, h2, h3, h4, h5, h6, h7, h8, h9, h10, h11, h12⟩
          subst h1
          simp only at h5 h6 h7 h8 h9 h10 h11 h12
          have hat := h11.1
          have xa := rw_at (d := e) (i := a) (by omega)
          rw [partLoop_eq] at h12
          simp +contextual -implicitDefEqProofs (maxSteps := 2000000) only [↓wP, wQ, wQ1, wQ2, wQ3, wR, boxE, partsOf, ↓reduceIte, n1w, n2w, n3w, n4w, n5w, n6w, reduceCtorEq, i1w, i2w, i3w, i4w, i5w]
          refine WC_loopE 6 0 (fun (i' : Nat) env σ' n' => σ' = σ1 ∧ n' = n1 ∧ env 0 = .ref id 0 N 2 ∧ env 1 = .int .i64 (a : Int) ∧ env 4 = .fn F [] ∧ env 12 = .int .i64 (i' : Int) ∧ env 13 = .int .i64 ((j : Nat) : Int) ∧
              i ≤ i' ∧ i' ≤ j + 2 ∧ scanUp (fun x => ahR x e[a]!) e (j) i' = scanUp (fun x => ahR x e[a]!) e (j) (i)) (fun i' => j + 1 - i')
            (fun env σ' n' => σ' = σ1 ∧ n' = n1 ∧ env 0 = .ref id 0 N 2 ∧ env 1 = .int .i64 (a : Int) ∧ env 4 = .fn F [] ∧ env 12 = .int .i64 ((scanUp (fun x => ahR x e[a]!) e (j) (i) : Nat) : Int) ∧ env 13 = .int .i64 ((j : Nat) : Int) ∧ scanUp (fun x => ahR x e[a]!) e (j) (i) ≤ j + 2) ?_ ?_ (i) _ _ _ ?_
          · clear h2 h3 h4 h5 h6
            intro i' env σ2 n2 ⟨k1, k2, k3, k4, k5, k6, k7, k8, k9, k10⟩
            subst k1 k2
            by_cases hle : i' ≤ j
            · have hle' : (i' : Int) ≤ ((j : Nat) : Int) := by omega
              have wi : IntKind.i64.wrap ((i' : Int) + 1) = ((i' + 1 : Nat) : Int) := by rw [wrap_i64] <;> omega
              have x1 := rw_at (d := e) (i := i') (by omega)
              have l1 : i' < N := by omega
              by_cases hc : cmpU (e[i']!).id (e[a]!).id < 0
              · have hah : ahR e[i']! e[a]! = true := by rw [← cmp_lt]; simpa using hc
                simp +contextual -implicitDefEqProofs (maxSteps := 2000000) only [↓wP, wQ, wQ1, wQ2, wQ3, wR, boxE, partsOf, ↓reduceIte, n1w, n2w, n3w, n4w, n5w, n6w, reduceCtorEq, i1w, i2w, i3w, i4w, i5w, exQ_exit, k3, k4, k5, k6, k7, hle', hat, m1, l1, xa, x1, hF, hc, wi]
                exact ⟨i' + 1, by omega, rfl, by omega, by omega, by rw [su_go hle (by simp [hah])]; exact k10⟩
              · have hah : ahR e[i']! e[a]! = false := by rw [← cmp_lt]; simpa using hc
                have hst := su_stop (p := (fun x => ahR x e[a]!)) (d := e) (i := i') (j := j) (.inr (by simp [hah]))
                rw [hst] at k10
                rw [← k10]
                simp +contextual -implicitDefEqProofs (maxSteps := 2000000) only [↓wP, wQ, wQ1, wQ2, wQ3, wR, boxE, partsOf, ↓reduceIte, n1w, n2w, n3w, n4w, n5w, n6w, reduceCtorEq, i1w, i2w, i3w, i4w, i5w, exQ_exit, k3, k4, k5, k6, k7, hle', hat, m1, l1, xa, x1, hF, hc]
                omega
            · have hle' : ¬ (i' : Int) ≤ ((j : Nat) : Int) := by omega
              have hst := su_stop (p := (fun x => ahR x e[a]!)) (d := e) (i := i') (j := j) (.inl hle)
              rw [hst] at k10
              rw [← k10]
              simp +contextual -implicitDefEqProofs (maxSteps := 2000000) only [↓wP, wQ, wQ1, wQ2, wQ3, wR, boxE, partsOf, ↓reduceIte, n1w, n2w, n3w, n4w, n5w, n6w, reduceCtorEq, i1w, i2w, i3w, i4w, i5w, exQ_exit, k3, k4, k5, k6, k7, hle']
              omega
          · clear h2 h3 h4 h5 h6
            intro env σ2 n2 ⟨k1, k2, h2, h3, h4, h5, h6, k8⟩
            subst k1 k2
            have hge := scanUp_ge (fun x => ahR x e[a]!) e (j) (i)
            generalize scanUp (fun x => ahR x e[a]!) e (j) (i) = i2 at *
            simp +contextual -implicitDefEqProofs (maxSteps := 2000000) only [↓wP, wQ, wQ1, wQ2, wQ3, wR, boxE, partsOf, ↓reduceIte, n1w, n2w, n3w, n4w, n5w, n6w, reduceCtorEq, i1w, i2w, i3w, i4w, i5w]
            refine WC_loopE 8 0 (fun (j' : Nat) env σ' n' => σ' = σ2 ∧ n' = n2 ∧ env 0 = .ref id 0 N 2 ∧ env 1 = .int .i64 (a : Int) ∧ env 4 = .fn F [] ∧ env 12 = .int .i64 (i2 : Int) ∧ env 13 = .int .i64 (j' : Int) ∧
                j' ≤ j ∧ i2 ≤ j' + 2 ∧ scanDown (fun x => !ahR x e[a]!) e i2 j' = scanDown (fun x => !ahR x e[a]!) e i2 (j)) (fun j' => j')
              (fun env σ' n' => σ' = σ2 ∧ n' = n2 ∧ env 0 = .ref id 0 N 2 ∧ env 1 = .int .i64 (a : Int) ∧ env 4 = .fn F [] ∧ env 12 = .int .i64 (i2 : Int) ∧ env 13 = .int .i64 ((scanDown (fun x => !ahR x e[a]!) e i2 (j) : Nat) : Int) ∧ i2 ≤ scanDown (fun x => !ahR x e[a]!) e i2 (j) + 2) ?_ ?_ (j) _ _ _ ?_
            · clear h2 h3 h4 h5 h6
              intro j' env σ3 n3 ⟨k1, k2, k3, k4, k5, k6, k7, k8, k9, k10⟩
              subst k1 k2
              by_cases hle : i2 ≤ j'
              · have hle' : (i2 : Int) ≤ (j' : Int) := by omega
                obtain ⟨j', rfl⟩ : ∃ q, j' = q + 1 := ⟨j' - 1, by omega⟩
                have wi : IntKind.i64.wrap (((j' + 1 : Nat) : Int) - 1) = (j' : Int) := by rw [wrap_i64] <;> omega
                have x1 := rw_at (d := e) (i := j' + 1) (by omega)
                have l1 : j' + 1 < N := by omega
                by_cases hc : cmpU (e[j' + 1]!).id (e[a]!).id < 0
                · have hah : ahR e[j' + 1]! e[a]! = true := by rw [← cmp_lt]; simpa using hc
                  have hst := sd_stop (p := (fun x => !ahR x e[a]!)) (d := e) (i := i2) (j := j' + 1) (.inr (by simp [hah]))
                  rw [hst] at k10
                  rw [← k10]
                  simp +contextual -implicitDefEqProofs (maxSteps := 2000000) only [↓wP, wQ, wQ1, wQ2, wQ3, wR, boxE, partsOf, ↓reduceIte, n1w, n2w, n3w, n4w, n5w, n6w, reduceCtorEq, i1w, i2w, i3w, i4w, i5w, exQ_exit, k3, k4, k5, k6, k7, hle', hat, m1, l1, xa, x1, hF, hc]
                  omega
                · have hah : ahR e[j' + 1]! e[a]! = false := by rw [← cmp_lt]; simpa using hc
                  simp +contextual -implicitDefEqProofs (maxSteps := 2000000) only [↓wP, wQ, wQ1, wQ2, wQ3, wR, boxE, partsOf, ↓reduceIte, n1w, n2w, n3w, n4w, n5w, n6w, reduceCtorEq, i1w, i2w, i3w, i4w, i5w, exQ_exit, k3, k4, k5, k6, k7, hle', hat, m1, l1, xa, x1, hF, hc, wi]
                  exact ⟨j', by omega, rfl, by omega, by omega, by rw [sd_go hle (by simp [hah])]; exact k10⟩
              · have hle' : ¬ (i2 : Int) ≤ (j' : Int) := by omega
                have hst := sd_stop (p := (fun x => !ahR x e[a]!)) (d := e) (i := i2) (j := j') (.inl hle)
                rw [hst] at k10
                rw [← k10]
                simp +contextual -implicitDefEqProofs (maxSteps := 2000000) only [↓wP, wQ, wQ1, wQ2, wQ3, wR, boxE, partsOf, ↓reduceIte, n1w, n2w, n3w, n4w, n5w, n6w, reduceCtorEq, i1w, i2w, i3w, i4w, i5w, exQ_exit, k3, k4, k5, k6, k7, hle']
                omega
            · clear h2 h3 h4 h5 h6
              intro env σ3 n3 ⟨k1, k2, h2, h3, h4, h5, h6, k9⟩
              subst k1 k2
              have hle := scanDown_le (fun x => !ahR x e[a]!) e i2 (j)
              generalize scanDown (fun x => !ahR x e[a]!) e i2 (j) = j2 at *
              by_cases hgt : j2 < i2
              · have hgt' : (j2 : Int) < (i2 : Int) := by omega
                rw [if_pos hgt] at h12
                have x1 := rw_at (d := e) (i := j2) (by omega)
                have x2 := rw_at (d := e) (i := a) (by omega)
                obtain ⟨u, v, x3⟩ := rw_set_at (d := e) (i := j2) (j := a) (x := e[a]!) (by omega)
                have l1 : j2 < N := by omega
                have l2 : a < N := by omega
                simp +contextual -implicitDefEqProofs (maxSteps := 2000000) only [↓wP, wQ, wQ1, wQ2, wQ3, wR, boxE, partsOf, ↓reduceIte, n1w, n2w, n3w, n4w, n5w, n6w, reduceCtorEq, i1w, i2w, i3w, i4w, i5w, h2, h3, h4, h5, h6, hgt', x1, x2, x3, l1, l2, hat]
                have := hR j2 e h12 h10 (by omega)
                exact this _ (h11.swp _ _)
              · have hgt' : ¬ (j2 : Int) < (i2 : Int) := by omega
                rw [if_neg hgt] at h12
                have wi : IntKind.i64.wrap ((i2 : Int) + 1) = ((i2 + 1 : Nat) : Int) := by rw [wrap_i64] <;> omega
                have wj : IntKind.i64.wrap ((j2 : Int) - 1) = ((j2 - 1 : Nat) : Int) := by rw [wrap_i64] <;> omega
                have x1 := rw_at (d := e) (i := i2) (by omega)
                have x2 := rw_at (d := e) (i := j2) (by omega)
                obtain ⟨u, v, x3⟩ := rw_set_at (d := e) (i := i2) (j := j2) (x := e[j2]!) (by omega)
                have l1 : i2 < N := by omega
                have l2 : j2 < N := by omega
                simp +contextual -implicitDefEqProofs (maxSteps := 2000000) only [↓wP, wQ, wQ1, wQ2, wQ3, wR, boxE, partsOf, ↓reduceIte, n1w, n2w, n3w, n4w, n5w, n6w, reduceCtorEq, i1w, i2w, i3w, i4w, i5w, h2, h3, h4, h5, h6, hgt', wi, wj, x1, x2, x3, l1, l2, hat]
                refine ⟨((i2 + 1, j2 - 1), swp e i2 j2), by dsimp only; omega, rfl, rfl, by dsimp only; omega, by dsimp only; omega, by dsimp only; omega, by rw [swp_size, h10], h11.swp _ _, h12⟩
            · simp +contextual -implicitDefEqProofs (maxSteps := 2000000) only [↓wP, wQ, wQ1, wQ2, wQ3, wR, boxE, partsOf, ↓reduceIte, n1w, n2w, n3w, n4w, n5w, n6w, reduceCtorEq, i1w, i2w, i3w, i4w, i5w, h2, h3, h4, h5, h6]
              exact k8
          · simp +contextual -implicitDefEqProofs (maxSteps := 2000000) only [↓wP, wQ, wQ1, wQ2, wQ3, wR, boxE, partsOf, ↓reduceIte, n1w, n2w, n3w, n4w, n5w, n6w, reduceCtorEq, i1w, i2w, i3w, i4w, i5w, h2, h3, h4, h5, h6]
            omega
        · simp +contextual -implicitDefEqProofs (maxSteps := 2000000) only [↓wP, wQ, wQ1, wQ2, wQ3, wR, boxE, partsOf, ↓reduceIte, n1w, n2w, n3w, n4w, n5w, n6w, reduceCtorEq, i1w, i2w, i3w, i4w, i5w, h2, h3, h4, h5, h6]
          exact ⟨by omega, by omega, by omega, hs1, hat1⟩
    · simp +contextual -implicitDefEqProofs (maxSteps := 2000000) only [↓wP, wQ, wQ1, wQ2, wQ3, wR, boxE, partsOf, ↓reduceIte, n1w, n2w, n3w, n4w, n5w, n6w, reduceCtorEq, i1w, i2w, i3w, i4w, i5w, h2, h3, h4, h5, h6]
      exact k8
  · simp +contextual -implicitDefEqProofs (maxSteps := 2000000) only [↓wP, wQ, wQ1, wQ2, wQ3, wR, boxE, partsOf, ↓reduceIte, n1w, n2w, n3w, n4w, n5w, n6w, reduceCtorEq, i1w, i2w, i3w, i4w, i5w, h2, h3, h4, h5, h6]
    omega
end Go.Q.SB
end

section
/- Heaps; parts that are nearly in order. -/
set_option linter.unusedSimpArgs false
set_option linter.unusedVariables false
namespace Go.Q.SB
open Go.Q Go.Sort
open Nat renaming reduceEqDiff → n1w, reduceAdd → n2w, reduceSub → n3w, reduceLeDiff → n4w, reduceLT → n5w, reduceMul → n6w
open Int renaming reduceBNe → i1w, reduceBEq → i2w, reduceLT → i3w, reduceLE → i4w, reduceGT → i5w
theorem bin_quo2 (m : Nat) (h : m < 9223372036854775808) : binV .quo (.int .i64 (m : Int)) (.int .i64 2) = some (.int .i64 ((m / 2 : Nat) : Int)) := by
  rw [bin_quo .i64 (m : Int) 2 (by decide)]
  have e : (m : Int).tdiv 2 = ((m / 2 : Nat) : Int) := rfl
  rw [e, wrap_nat (by omega)]
theorem raw123 (F : Nat) (hF : CmpF F) (d : Array Rw) (N lo hi first id n : Nat) (σ : Sto) (hN : d.size = N) (hb : first + hi ≤ N) (hlo : lo ≤ N) (hn : N < 1000000) (hσ : σ id = some (.row 2 (rw' d))) {Q : V → Sto → Nat → Prop}
    (hQ : ∀ σ', At σ' σ id (siftDown ahR hi first lo d) → Q .undef σ' n) :
    run T (.raw 123 [.ref id 0 N 2, .int .i64 (lo : Int), .int .i64 (hi : Int), .int .i64 (first : Int), .fn F []] σ n 0) (memQ Q) := by
  refine run_rawE (fn := g123) rfl rfl ?_
  simp only [g123, b123, oO, oN, mV, lD, gO, pP, qQ, cI, aR]
  simp +contextual -implicitDefEqProofs (maxSteps := 2000000) only [↓wP, wQ, wQ1, wQ2, wQ3, wR, boxE, partsOf, ↓reduceIte, n1w, n2w, n3w, n4w, n5w, n6w, reduceCtorEq, i1w, i2w, i3w, i4w, i5w]
  refine WC_loopI 0 (fun (s : Nat × Array Rw) env σ' n' => n' = n ∧ env 0 = .ref id 0 N 2 ∧ env 2 = .int .i64 (hi : Int) ∧ env 3 = .int .i64 (first : Int) ∧ env 4 = .fn F [] ∧ env 10 = .int .i64 (s.1 : Int) ∧
      s.1 ≤ N ∧ s.2.size = N ∧ At σ' σ id s.2 ∧ siftDown ahR hi first s.1 s.2 = siftDown ahR hi first lo d) (fun s => hi - s.1) ?_ (lo, d) _ _ _ ?_
  · intro ⟨r, e⟩ env σ1 n1 ⟨h1, h2, h3, h4, h5, h6, h7, h8, h9, h10⟩
    subst h1
    dsimp only at h6 h7 h8 h9 h10
    obtain ⟨t, ht⟩ : ∃ t, t = 2 * r := ⟨_, rfl⟩
    obtain ⟨c1, hc1⟩ : ∃ c1, c1 = 2 * r + 1 := ⟨_, rfl⟩
    obtain ⟨c2, hc2⟩ : ∃ c2, c2 = 2 * r + 2 := ⟨_, rfl⟩
    have w0 : IntKind.i64.wrap (2 * (r : Int)) = (t : Int) := by rw [wrap_i64] <;> omega
    have w1 : IntKind.i64.wrap ((t : Int) + 1) = (c1 : Int) := by rw [wrap_i64] <;> omega
    have w2 : IntKind.i64.wrap ((c1 : Int) + 1) = (c2 : Int) := by rw [wrap_i64] <;> omega
    rw [siftDown, show 2 * r + 1 + 1 = c2 by omega, show 2 * r + 1 = c1 by omega] at h10
    by_cases hc : hi ≤ c1
    · have hc' : (hi : Int) ≤ (c1 : Int) := by omega
      rw [dif_pos hc] at h10
      simp +contextual -implicitDefEqProofs (maxSteps := 2000000) only [↓wP, wQ, wQ1, wQ2, wQ3, wR, boxE, partsOf, ↓reduceIte, n1w, n2w, n3w, n4w, n5w, n6w, reduceCtorEq, i1w, i2w, i3w, i4w, i5w, h2, h3, h4, h5, h6, w0, w1, hc']
      refine hQ _ ?_
      rw [← h10]
      exact h9
    have hc' : ¬ (hi : Int) ≤ (c1 : Int) := by omega
    rw [dif_neg hc] at h10
    obtain ⟨p, hp⟩ : ∃ p, p = first + r := ⟨_, rfl⟩
    obtain ⟨p1, hp1⟩ : ∃ p1, p1 = first + c1 := ⟨_, rfl⟩
    obtain ⟨p2, hp2⟩ : ∃ p2, p2 = first + c2 := ⟨_, rfl⟩
    have w3 : IntKind.i64.wrap ((first : Int) + (r : Int)) = (p : Int) := by rw [wrap_i64] <;> omega
    have w4 : IntKind.i64.wrap ((first : Int) + (c1 : Int)) = (p1 : Int) := by rw [wrap_i64] <;> omega
    have w5 : IntKind.i64.wrap ((first : Int) + (c2 : Int)) = (p2 : Int) := by rw [wrap_i64] <;> omega
    have w6 : IntKind.i64.wrap ((p1 : Int) + 1) = (p2 : Int) := by rw [wrap_i64] <;> omega
    have l0 : p < N := by omega
    have l1 : p1 < N := by omega
    have x0 := rw_at (d := e) (i := p) (by omega)
    have x1 := rw_at (d := e) (i := p1) (by omega)
    have hat := h9.1
    rw [← hp, ← hp1, ← hp2, show p1 + 1 = p2 by omega] at h10
    obtain ⟨u1, v1, y1⟩ := rw_set_at (d := e) (i := p) (j := p1) (x := e[p1]!) (by omega)
    by_cases hs : c2 < hi
    · have hs' : (c2 : Int) < (hi : Int) := by omega
      have l2 : p2 < N := by omega
      have x2 := rw_at (d := e) (i := p2) (by omega)
      obtain ⟨u2, v2, y2⟩ := rw_set_at (d := e) (i := p) (j := p2) (x := e[p2]!) (by omega)
      by_cases k1 : cmpU (e[p1]!).id (e[p2]!).id < 0
      · have a1 : ahR e[p1]! e[p2]! = true := by rw [← cmp_lt]; simpa using k1
        rw [if_pos (by simp [hs, a1])] at h10
        by_cases k2 : cmpU (e[p]!).id (e[p2]!).id < 0
        · have a2 : ahR e[p]! e[p2]! = true := by rw [← cmp_lt]; simpa using k2
          rw [if_neg (by simp [a2]), dif_pos hs] at h10
          simp +contextual -implicitDefEqProofs (maxSteps := 2000000) only [↓wP, wQ, wQ1, wQ2, wQ3, wR, boxE, partsOf, ↓reduceIte, n1w, n2w, n3w, n4w, n5w, n6w, reduceCtorEq, i1w, i2w, i3w, i4w, i5w, h2, h3, h4, h5, h6, w0, w1, w2, w3, w4, w5, w6, hc', hs', hat, l0, l1, l2, x0, x1, x2, y2, hF, k1, k2]
          exact ⟨(c2, swp e p p2), by dsimp only; omega, rfl, by dsimp only; omega, by rw [swp_size, h8], h9.swp _ _, h10⟩
        · have a2 : ahR e[p]! e[p2]! = false := by rw [← cmp_lt]; simpa using k2
          rw [if_pos (by simp [a2])] at h10
          simp +contextual -implicitDefEqProofs (maxSteps := 2000000) only [↓wP, wQ, wQ1, wQ2, wQ3, wR, boxE, partsOf, ↓reduceIte, n1w, n2w, n3w, n4w, n5w, n6w, reduceCtorEq, i1w, i2w, i3w, i4w, i5w, h2, h3, h4, h5, h6, w0, w1, w2, w3, w4, w5, w6, hc', hs', hat, l0, l1, l2, x0, x1, x2, hF, k1, k2]
          refine hQ _ ?_
          rw [← h10]
          exact h9
      · have a1 : ahR e[p1]! e[p2]! = false := by rw [← cmp_lt]; simpa using k1
        rw [if_neg (by simp [a1])] at h10
        by_cases k2 : cmpU (e[p]!).id (e[p1]!).id < 0
        · have a2 : ahR e[p]! e[p1]! = true := by rw [← cmp_lt]; simpa using k2
          rw [if_neg (by simp [a2])] at h10
          simp +contextual -implicitDefEqProofs (maxSteps := 2000000) only [↓wP, wQ, wQ1, wQ2, wQ3, wR, boxE, partsOf, ↓reduceIte, n1w, n2w, n3w, n4w, n5w, n6w, reduceCtorEq, i1w, i2w, i3w, i4w, i5w, h2, h3, h4, h5, h6, w0, w1, w2, w3, w4, w5, w6, hc', hs', hat, l0, l1, l2, x0, x1, x2, y1, hF, k1, k2]
          exact ⟨(c1, swp e p p1), by dsimp only; omega, rfl, by dsimp only; omega, by rw [swp_size, h8], h9.swp _ _, h10⟩
        · have a2 : ahR e[p]! e[p1]! = false := by rw [← cmp_lt]; simpa using k2
          rw [if_pos (by simp [a2])] at h10
          simp +contextual -implicitDefEqProofs (maxSteps := 2000000) only [↓wP, wQ, wQ1, wQ2, wQ3, wR, boxE, partsOf, ↓reduceIte, n1w, n2w, n3w, n4w, n5w, n6w, reduceCtorEq, i1w, i2w, i3w, i4w, i5w, h2, h3, h4, h5, h6, w0, w1, w2, w3, w4, w5, w6, hc', hs', hat, l0, l1, l2, x0, x1, x2, hF, k1, k2]
          refine hQ _ ?_
          rw [← h10]
          exact h9
    · have hs' : ¬ (c2 : Int) < (hi : Int) := by omega
      rw [if_neg (by simp [hs])] at h10
      by_cases k2 : cmpU (e[p]!).id (e[p1]!).id < 0
      · have a2 : ahR e[p]! e[p1]! = true := by rw [← cmp_lt]; simpa using k2
        rw [if_neg (by simp [a2])] at h10
        simp +contextual -implicitDefEqProofs (maxSteps := 2000000) only [↓wP, wQ, wQ1, wQ2, wQ3, wR, boxE, partsOf, ↓reduceIte, n1w, n2w, n3w, n4w, n5w, n6w, reduceCtorEq, i1w, i2w, i3w, i4w, i5w, h2, h3, h4, h5, h6, w0, w1, w2, w3, w4, w5, w6, hc', hs', hat, l0, l1, x0, x1, y1, hF, k2]
        exact ⟨(c1, swp e p p1), by dsimp only; omega, rfl, by dsimp only; omega, by rw [swp_size, h8], h9.swp _ _, h10⟩
      · have a2 : ahR e[p]! e[p1]! = false := by rw [← cmp_lt]; simpa using k2
        rw [if_pos (by simp [a2])] at h10
        simp +contextual -implicitDefEqProofs (maxSteps := 2000000) only [↓wP, wQ, wQ1, wQ2, wQ3, wR, boxE, partsOf, ↓reduceIte, n1w, n2w, n3w, n4w, n5w, n6w, reduceCtorEq, i1w, i2w, i3w, i4w, i5w, h2, h3, h4, h5, h6, w0, w1, w2, w3, w4, w5, w6, hc', hs', hat, l0, l1, x0, x1, hF, k2]
        refine hQ _ ?_
        rw [← h10]
        exact h9
  · simp +contextual -implicitDefEqProofs (maxSteps := 2000000) only [↓wP, wQ, wQ1, wQ2, wQ3, wR, boxE, partsOf, ↓reduceIte, n1w, n2w, n3w, n4w, n5w, n6w, reduceCtorEq, i1w, i2w, i3w, i4w, i5w]
    exact ⟨hlo, hN, At.refl hσ⟩
theorem At.trans {σ σ1 σ2 : Sto} {id : Nat} {d e : Array Rw} (h : At σ2 σ1 id e) (h' : At σ1 σ id d) : At σ2 σ id e := ⟨h.1, fun i hi => (h.2 i hi).trans (h'.2 i hi)⟩
theorem sift_size (hi first root : Nat) (d : Array Rw) : (siftDown ahR hi first root d).size = d.size := by
  have key : ∀ (k root : Nat) (d : Array Rw), hi - root ≤ k → (siftDown ahR hi first root d).size = d.size := by
    intro k
    induction k with
    | zero =>
      intro root d hk
      rw [siftDown]
      rw [dif_pos (by omega)]
    | succ k ih =>
      intro root d hk
      rw [siftDown]
      split
      · rfl
      · split
        · split
          · rfl
          · split
            · rw [ih _ _ (by omega), swp_size]
            · rfl
        · split
          · rfl
          · rw [ih _ _ (by omega), swp_size]
  exact key _ root d (Nat.le_refl _)
theorem raw113 (F : Nat) (hF : CmpF F) (d : Array Rw) (N a b id n : Nat) (σ : Sto) (hN : d.size = N) (hab : a < b) (hb : b ≤ N) (hn : N < 1000000) (hσ : σ id = some (.row 2 (rw' d))) {Q : V → Sto → Nat → Prop}
    (hQ : ∀ σ', At σ' σ id (heapSort ahR d a b) → Q .undef σ' n) :
    run T (.raw 113 [.ref id 0 N 2, .int .i64 (a : Int), .int .i64 (b : Int), .fn F []] σ n 0) (memQ Q) := by
  refine run_rawE (fn := g113) rfl rfl ?_
  simp only [g113, b113, oO, oN, mV, lD, gO, pP, qQ, cI, aR]
  obtain ⟨hi, hhi⟩ : ∃ hi, hi = b - a := ⟨_, rfl⟩
  have w1 : IntKind.i64.wrap ((b : Int) - (a : Int)) = (hi : Int) := by rw [wrap_i64] <;> omega
  have w2 : IntKind.i64.wrap ((hi : Int) - 1) = ((hi - 1 : Nat) : Int) := by rw [wrap_i64] <;> omega
  have q2 := bin_quo2 (hi - 1) (by omega)
  unfold heapSort at hQ
  rw [← hhi] at hQ
  simp +contextual -implicitDefEqProofs (maxSteps := 2000000) only [↓wP, wQ, wQ1, wQ2, wQ3, wR, boxE, partsOf, ↓reduceIte, n1w, n2w, n3w, n4w, n5w, n6w, reduceCtorEq, i1w, i2w, i3w, i4w, i5w, w1, w2, q2]
  refine WC_cutB (fun env σ' n' => n' = n ∧ env 0 = .ref id 0 N 2 ∧ env 3 = .fn F [] ∧ env 8 = .int .i64 (a : Int) ∧ env 9 = .int .i64 0 ∧ env 10 = .int .i64 (hi : Int) ∧ At σ' σ id (heapBuild ahR hi a ((hi - 1) / 2 + 1) d) ∧ (heapBuild ahR hi a ((hi - 1) / 2 + 1) d).size = N) ?_ ?_
  · refine WC_loopI 0 (fun (s : Nat × Array Rw) env σ' n' => n' = n ∧ env 0 = .ref id 0 N 2 ∧ env 3 = .fn F [] ∧ env 8 = .int .i64 (a : Int) ∧ env 9 = .int .i64 0 ∧ env 10 = .int .i64 (hi : Int) ∧ env 11 = .int .i64 ((s.1 : Int) - 1) ∧
        s.1 ≤ N ∧ s.2.size = N ∧ At σ' σ id s.2 ∧ heapBuild ahR hi a s.1 s.2 = heapBuild ahR hi a ((hi - 1) / 2 + 1) d) (fun s => s.1) ?_ ((hi - 1) / 2 + 1, d) _ _ _ ?_
    · intro ⟨k, e⟩ env σ1 n1 ⟨h1, h2, h3, h4, h5, h6, h7, h8, h9, h10, h11⟩
      subst h1
      dsimp only at h7 h8 h9 h10 h11
      cases k with
      | zero =>
        have hk : ¬ ((0 : Int) ≤ ((0 : Nat) : Int) - 1) := by decide
        simp +contextual -implicitDefEqProofs (maxSteps := 2000000) only [↓wP, wQ, wQ1, wQ2, wQ3, wR, boxE, partsOf, ↓reduceIte, n1w, n2w, n3w, n4w, n5w, n6w, reduceCtorEq, i1w, i2w, i3w, i4w, i5w, h2, h3, h4, h5, h6, h7, hk]
        rw [← h11]
        exact ⟨rfl, rfl, rfl, h2, h3, h4, h5, h6, h10, h9⟩
      | succ k =>
        rw [show ((k + 1 : Nat) : Int) - 1 = (k : Int) by omega] at h7
        have hk : (0 : Int) ≤ (k : Int) := by omega
        have wk : IntKind.i64.wrap ((k : Int) - 1) = (k : Int) - 1 := by rw [wrap_i64] <;> omega
        simp +contextual -implicitDefEqProofs (maxSteps := 2000000) only [↓wP, wQ, wQ1, wQ2, wQ3, wR, boxE, partsOf, ↓reduceIte, n1w, n2w, n3w, n4w, n5w, n6w, reduceCtorEq, i1w, i2w, i3w, i4w, i5w, h2, h3, h4, h5, h6, h7, hk]
        refine stepW_raw (by decide) (raw123 F hF e N k hi a id n1 σ1 h9 (by omega) (by omega) hn h10.1 fun σ2 hat => ?_)
        simp +contextual -implicitDefEqProofs (maxSteps := 2000000) only [↓wP, wQ, wQ1, wQ2, wQ3, wR, boxE, partsOf, ↓reduceIte, n1w, n2w, n3w, n4w, n5w, n6w, reduceCtorEq, i1w, i2w, i3w, i4w, i5w, h2, h3, h4, h5, h6, h7, wk]
        exact ⟨(k, siftDown ahR hi a k e), by dsimp only; omega, rfl, by dsimp only; omega, by rw [sift_size, h9], hat.trans h10, h11⟩
    · simp +contextual -implicitDefEqProofs (maxSteps := 2000000) only [↓wP, wQ, wQ1, wQ2, wQ3, wR, boxE, partsOf, ↓reduceIte, n1w, n2w, n3w, n4w, n5w, n6w, reduceCtorEq, i1w, i2w, i3w, i4w, i5w]
      exact ⟨by congr 1; omega, by omega, hN, At.refl hσ⟩
  · intro env σ' n' ⟨h1, h2, h3, h4, h5, h6, h7, h8⟩
    subst h1
    generalize heapBuild ahR hi a ((hi - 1) / 2 + 1) d = d1 at *
    simp +contextual -implicitDefEqProofs (maxSteps := 2000000) only [↓wP, wQ, wQ1, wQ2, wQ3, wR, boxE, partsOf, ↓reduceIte, n1w, n2w, n3w, n4w, n5w, n6w, reduceCtorEq, i1w, i2w, i3w, i4w, i5w, h2, h3, h4, h5, h6, w2]
    refine WC_loopI 0 (fun (s : Nat × Array Rw) env σ'' n'' => n'' = n' ∧ env 0 = .ref id 0 N 2 ∧ env 3 = .fn F [] ∧ env 8 = .int .i64 (a : Int) ∧ env 9 = .int .i64 0 ∧ env 12 = .int .i64 ((s.1 : Int) - 1) ∧
        s.1 ≤ hi ∧ s.2.size = N ∧ At σ'' σ id s.2 ∧ heapPop ahR a s.1 s.2 = heapPop ahR a hi d1) (fun s => s.1) ?_ (hi, d1) _ _ _ ?_
    · clear h2 h3 h4 h5 h6
      intro ⟨k, e⟩ env σ1 n1 ⟨h1, h2, h3, h4, h5, h7', h8', h9, h10, h11⟩
      subst h1
      dsimp only at h7' h8' h9 h10 h11
      cases k with
      | zero =>
        have hk : ¬ ((0 : Int) ≤ ((0 : Nat) : Int) - 1) := by decide
        simp +contextual -implicitDefEqProofs (maxSteps := 2000000) only [↓wP, wQ, wQ1, wQ2, wQ3, wR, boxE, partsOf, ↓reduceIte, n1w, n2w, n3w, n4w, n5w, n6w, reduceCtorEq, i1w, i2w, i3w, i4w, i5w, h2, h3, h4, h5, h7', hk]
        refine hQ _ ?_
        rw [← h11]
        exact h10
      | succ k =>
        rw [show ((k + 1 : Nat) : Int) - 1 = (k : Int) by omega] at h7'
        have hk : (0 : Int) ≤ (k : Int) := by omega
        have wk : IntKind.i64.wrap ((k : Int) - 1) = (k : Int) - 1 := by rw [wrap_i64] <;> omega
        obtain ⟨p, hp⟩ : ∃ p, p = a + k := ⟨_, rfl⟩
        have wp : IntKind.i64.wrap ((a : Int) + (k : Int)) = (p : Int) := by rw [wrap_i64] <;> omega
        have l0 : a < N := by omega
        have l1 : p < N := by omega
        have x0 := rw_at (d := e) (i := a) (by omega)
        have x1 := rw_at (d := e) (i := p) (by omega)
        obtain ⟨u1, v1, y1⟩ := rw_set_at (d := e) (i := a) (j := p) (x := e[p]!) (by omega)
        have hat := h10.1
        have h12 : heapPop ahR a (k + 1) e = heapPop ahR a k (siftDown ahR k a 0 (swp e a p)) := by rw [hp]; rfl
        rw [h12] at h11
        simp +contextual -implicitDefEqProofs (maxSteps := 2000000) only [↓wP, wQ, wQ1, wQ2, wQ3, wR, boxE, partsOf, ↓reduceIte, n1w, n2w, n3w, n4w, n5w, n6w, reduceCtorEq, i1w, i2w, i3w, i4w, i5w, h2, h3, h4, h5, h7', hk, wp, hat, l0, l1, x0, x1, y1]
        have hsw := h10.swp a p
        refine stepW_raw (by decide) (raw123 F hF (swp e a p) N 0 k a id n1 _ (by rw [swp_size, h9]) (by omega) (by omega) hn hsw.1 fun σ2 hat2 => ?_)
        simp +contextual -implicitDefEqProofs (maxSteps := 2000000) only [↓wP, wQ, wQ1, wQ2, wQ3, wR, boxE, partsOf, ↓reduceIte, n1w, n2w, n3w, n4w, n5w, n6w, reduceCtorEq, i1w, i2w, i3w, i4w, i5w, h2, h3, h4, h5, h7', wk]
        exact ⟨(k, siftDown ahR k a 0 (swp e a p)), by dsimp only; omega, rfl, by dsimp only; omega, by rw [sift_size, swp_size, h9], hat2.trans hsw, h11⟩
    · simp +contextual -implicitDefEqProofs (maxSteps := 2000000) only [↓wP, wQ, wQ1, wQ2, wQ3, wR, boxE, partsOf, ↓reduceIte, n1w, n2w, n3w, n4w, n5w, n6w, reduceCtorEq, i1w, i2w, i3w, i4w, i5w, h2, h3, h4, h5]
      exact ⟨by congr 1; omega, h8, h7⟩
theorem ss_go {d : Array Rw} {b i : Nat} (h : i < b) (hl : ahR d[i]! d[i - 1]! = false) : scanSorted ahR d b (i + 1) = scanSorted ahR d b i := by
  conv => rhs; rw [scanSorted]
  rw [if_pos (by simp [h, hl])]
theorem ss_stop {d : Array Rw} {b i : Nat} (h : ¬ i < b ∨ ahR d[i]! d[i - 1]! = true) : scanSorted ahR d b i = i := by
  rw [scanSorted]
  rcases h with h | h <;> simp [h]
theorem shiftD_size : ∀ (j : Nat) (d : Array Rw), (shiftDown ahR j d).size = d.size
  | 0, _ => rfl
  | j + 1, d => by
    rw [shiftDown]
    split
    · rfl
    · rw [shiftD_size j, swp_size]
theorem raw117 (F : Nat) (hF : CmpF F) (d : Array Rw) (N a b id n : Nat) (σ : Sto) (hN : d.size = N) (hab : a < b) (hb : b ≤ N) (hn : N < 1000000) (hσ : σ id = some (.row 2 (rw' d))) {Q : V → Sto → Nat → Prop}
    (hQ : ∀ σ', At σ' σ id (partialInsertionSort ahR d a b).1 → Q (.bool (partialInsertionSort ahR d a b).2) σ' n) :
    run T (.raw 117 [.ref id 0 N 2, .int .i64 (a : Int), .int .i64 (b : Int), .fn F []] σ n 0) (memQ Q) := by
  refine run_rawE (fn := g117) rfl rfl ?_
  simp only [g117, b117, oO, oN, mV, lD, gO, pP, qQ, cI, aR]
  have w1 : IntKind.i64.wrap ((a : Int) + 1) = ((a + 1 : Nat) : Int) := by rw [wrap_i64] <;> omega
  have w2 : IntKind.i64.wrap ((b : Int) - (a : Int)) = ((b - a : Nat) : Int) := by rw [wrap_i64] <;> omega
  unfold partialInsertionSort at hQ
  simp +contextual -implicitDefEqProofs (maxSteps := 2000000) only [↓wP, wQ, wQ1, wQ2, wQ3, wR, boxE, partsOf, ↓reduceIte, n1w, n2w, n3w, n4w, n5w, n6w, reduceCtorEq, i1w, i2w, i3w, i4w, i5w, w1]
  refine WC_loopI 0 (fun (s : (Nat × Nat) × Array Rw) env σ' n' => n' = n ∧ env 0 = .ref id 0 N 2 ∧ env 1 = .int .i64 (a : Int) ∧ env 2 = .int .i64 (b : Int) ∧ env 3 = .fn F [] ∧ env 9 = .int .i64 (s.1.2 : Int) ∧ env 10 = .int .i64 ((5 - s.1.1 : Nat) : Int) ∧
      s.1.1 ≤ 5 ∧ a < s.1.2 ∧ s.1.2 ≤ b ∧ s.2.size = N ∧ At σ' σ id s.2 ∧ partialIns ahR a b s.1.1 s.1.2 s.2 = partialIns ahR a b 5 (a + 1) d) (fun s => s.1.1) ?_ ((5, a + 1), d) _ _ _ ?_
  · intro ⟨⟨k, i⟩, e⟩ env σ1 n1 ⟨h1, h2, h3, h4, h5, h6, h7, h8, h9, h10, h11, h12, h13⟩
    subst h1
    dsimp only at h6 h7 h8 h9 h10 h11 h12 h13
    cases k with
    | zero =>
      have hk : ¬ (((5 - 0 : Nat) : Int) < 5) := by decide
      simp +contextual -implicitDefEqProofs (maxSteps := 2000000) only [↓wP, wQ, wQ1, wQ2, wQ3, wR, boxE, partsOf, ↓reduceIte, n1w, n2w, n3w, n4w, n5w, n6w, reduceCtorEq, i1w, i2w, i3w, i4w, i5w, h2, h3, h4, h5, h6, h7, hk]
      have hR : partialIns ahR a b 5 (a + 1) d = (e, false) := h13.symm
      rw [hR] at hQ
      exact hQ _ h12
    | succ k =>
      have hk : ((5 - (k + 1) : Nat) : Int) < 5 := by omega
      have wk : IntKind.i64.wrap (((5 - (k + 1) : Nat) : Int) + 1) = ((5 - k : Nat) : Int) := by rw [wrap_i64] <;> omega
      rw [partialIns_succ] at h13
      generalize hjj : (5 - (k + 1) : Nat) = jj at *
      have hat := h12.1
      simp +contextual -implicitDefEqProofs (maxSteps := 2000000) only [↓wP, wQ, wQ1, wQ2, wQ3, wR, boxE, partsOf, ↓reduceIte, n1w, n2w, n3w, n4w, n5w, n6w, reduceCtorEq, i1w, i2w, i3w, i4w, i5w, h2, h3, h4, h5, h6, h7, hk]
      refine WC_cutB (fun env σ' n' => σ' = σ1 ∧ n' = n1 ∧ env 0 = .ref id 0 N 2 ∧ env 1 = .int .i64 (a : Int) ∧ env 2 = .int .i64 (b : Int) ∧ env 3 = .fn F [] ∧ env 9 = .int .i64 ((scanSorted ahR e b i : Nat) : Int) ∧ env 10 = .int .i64 (jj : Int) ∧ a < scanSorted ahR e b i ∧ scanSorted ahR e b i ≤ b) ?_ ?_
      · refine WC_loopI 0 (fun (i' : Nat) env σ' n' => σ' = σ1 ∧ n' = n1 ∧ env 0 = .ref id 0 N 2 ∧ env 1 = .int .i64 (a : Int) ∧ env 2 = .int .i64 (b : Int) ∧ env 3 = .fn F [] ∧ env 9 = .int .i64 (i' : Int) ∧ env 10 = .int .i64 (jj : Int) ∧
            a < i' ∧ i' ≤ b ∧ scanSorted ahR e b i' = scanSorted ahR e b i) (fun i' => b - i') ?_ i _ _ _ ?_
        · clear h2 h3 h4 h5 h6 h7
          intro i' env σ2 n2 ⟨k1, k2, k3, k4, k5, k6, k7, k8, k9, k10, k11⟩
          subst k1 k2
          by_cases hlt : i' < b
          · have hlt' : (i' : Int) < (b : Int) := by omega
            have w3 : IntKind.i64.wrap ((i' : Int) - 1) = ((i' - 1 : Nat) : Int) := by rw [wrap_i64] <;> omega
            have w4 : IntKind.i64.wrap ((i' : Int) + 1) = ((i' + 1 : Nat) : Int) := by rw [wrap_i64] <;> omega
            have x1 := rw_at (d := e) (i := i') (by omega)
            have x2 := rw_at (d := e) (i := i' - 1) (by omega)
            have l1 : i' < N := by omega
            have l2 : i' - 1 < N := by omega
            by_cases hc : cmpU (e[i']!).id (e[i' - 1]!).id < 0
            · have hah : ahR e[i']! e[i' - 1]! = true := by rw [← cmp_lt]; simpa using hc
              have hst := ss_stop (d := e) (b := b) (i := i') (.inr hah)
              rw [hst] at k11
              rw [← k11]
              simp +contextual -implicitDefEqProofs (maxSteps := 2000000) only [↓wP, wQ, wQ1, wQ2, wQ3, wR, boxE, partsOf, ↓reduceIte, n1w, n2w, n3w, n4w, n5w, n6w, reduceCtorEq, i1w, i2w, i3w, i4w, i5w, exQ_exit, k3, k4, k5, k6, k7, k8, hlt', w3, w4, x1, x2, l1, l2, hat, hF, hc]
              exact ⟨k9, k10⟩
            · have hah : ahR e[i']! e[i' - 1]! = false := by rw [← cmp_lt]; simpa using hc
              simp +contextual -implicitDefEqProofs (maxSteps := 2000000) only [↓wP, wQ, wQ1, wQ2, wQ3, wR, boxE, partsOf, ↓reduceIte, n1w, n2w, n3w, n4w, n5w, n6w, reduceCtorEq, i1w, i2w, i3w, i4w, i5w, exQ_exit, k3, k4, k5, k6, k7, k8, hlt', w3, w4, x1, x2, l1, l2, hat, hF, hc]
              exact ⟨i' + 1, by omega, rfl, by omega, by omega, by rw [ss_go hlt hah]; exact k11⟩
          · have hlt' : ¬ (i' : Int) < (b : Int) := by omega
            have hst := ss_stop (d := e) (b := b) (i := i') (.inl hlt)
            rw [hst] at k11
            rw [← k11]
            simp +contextual -implicitDefEqProofs (maxSteps := 2000000) only [↓wP, wQ, wQ1, wQ2, wQ3, wR, boxE, partsOf, ↓reduceIte, n1w, n2w, n3w, n4w, n5w, n6w, reduceCtorEq, i1w, i2w, i3w, i4w, i5w, exQ_exit, k3, k4, k5, k6, k7, k8, hlt']
            exact ⟨k9, k10⟩
        · exact ⟨rfl, rfl, h2, h3, h4, h5, h6, h7, h9, h10, rfl⟩
      · clear h2 h3 h4 h5 h6 h7
        intro env σ2 n2 ⟨k1, k2, h2, h3, h4, h5, h6, h7, g1, g2⟩
        subst k1 k2
        generalize scanSorted ahR e b i = i2 at *
        by_cases e1 : i2 = b
        · have e1' : ((i2 : Int) == (b : Int)) = true := by simp [e1]
          rw [if_pos e1] at h13
          simp +contextual -implicitDefEqProofs (maxSteps := 2000000) only [↓wP, wQ, wQ1, wQ2, wQ3, wR, boxE, partsOf, ↓reduceIte, n1w, n2w, n3w, n4w, n5w, n6w, reduceCtorEq, i1w, i2w, i3w, i4w, i5w, h2, h3, h4, h5, h6, h7, e1']
          have := hQ σ2
          rw [← h13] at this
          exact this h12
        have e1' : ((i2 : Int) == (b : Int)) = false := by simp; omega
        rw [if_neg e1] at h13
        by_cases e2 : b - a < 50
        · have e2' : ((b - a : Nat) : Int) < 50 := by omega
          rw [if_pos e2] at h13
          simp +contextual -implicitDefEqProofs (maxSteps := 2000000) only [↓wP, wQ, wQ1, wQ2, wQ3, wR, boxE, partsOf, ↓reduceIte, n1w, n2w, n3w, n4w, n5w, n6w, reduceCtorEq, i1w, i2w, i3w, i4w, i5w, h2, h3, h4, h5, h6, h7, e1', w2, e2']
          have := hQ σ2
          rw [← h13] at this
          exact this h12
        have e2' : ¬ ((b - a : Nat) : Int) < 50 := by omega
        rw [if_neg e2] at h13
        have w3 : IntKind.i64.wrap ((i2 : Int) - 1) = ((i2 - 1 : Nat) : Int) := by rw [wrap_i64] <;> omega
        have w4 : IntKind.i64.wrap ((i2 : Int) + 1) = ((i2 + 1 : Nat) : Int) := by rw [wrap_i64] <;> omega
        have w5 : IntKind.i64.wrap ((i2 : Int) - (a : Int)) = ((i2 - a : Nat) : Int) := by rw [wrap_i64] <;> omega
        have w6 : IntKind.i64.wrap ((b : Int) - (i2 : Int)) = ((b - i2 : Nat) : Int) := by rw [wrap_i64] <;> omega
        have x1 := rw_at (d := e) (i := i2) (by omega)
        have x2 := rw_at (d := e) (i := i2 - 1) (by omega)
        obtain ⟨u, v, x3⟩ := rw_set_at (d := e) (i := i2) (j := i2 - 1) (x := e[i2 - 1]!) (by omega)
        have l1 : i2 < N := by omega
        have l2 : i2 - 1 < N := by omega
        have hsw := h12.swp i2 (i2 - 1)
        simp +contextual -implicitDefEqProofs (maxSteps := 2000000) only [↓wP, wQ, wQ1, wQ2, wQ3, wR, boxE, partsOf, ↓reduceIte, n1w, n2w, n3w, n4w, n5w, n6w, reduceCtorEq, i1w, i2w, i3w, i4w, i5w, h2, h3, h4, h5, h6, h7, e1', w2, e2', w3, w5, x1, x2, x3, l1, l2, hat]
        generalize (upd (upd σ2 id (some (.row 2 ((rw' e).set i2 (.agg [.int .u64 (e[i2 - 1]!).id, slV 1 i32V (e[i2 - 1]!).v]))))) id
          (some (.row 2 (((rw' e).set i2 (.agg [.int .u64 (e[i2 - 1]!).id, slV 1 i32V (e[i2 - 1]!).v])).set (i2 - 1) (.agg [.int .u64 (e[i2]!).id, slV 1 i32V (e[i2]!).v]))))) = σ3 at hsw
        have hsz : (swp e i2 (i2 - 1)).size = N := by rw [swp_size, h11]
        generalize swp e i2 (i2 - 1) = g0 at *
        clear x1 x2 x3 hat h12
        refine condC_cut (fun env σ' n' => n' = n2 ∧ env 0 = .ref id 0 N 2 ∧ env 1 = .int .i64 (a : Int) ∧ env 2 = .int .i64 (b : Int) ∧ env 3 = .fn F [] ∧ env 9 = .int .i64 (i2 : Int) ∧ env 10 = .int .i64 (jj : Int) ∧ At σ' σ id (fixDown ahR a i2 g0)) ?_ ?_ ?_
        · intro hx
          have hx' : 2 ≤ i2 - a := by have := of_decide_eq_true hx; omega
          have hfd : fixDown ahR a i2 g0 = shiftDown ahR (i2 - 1) g0 := by unfold fixDown; rw [if_pos hx']
          rw [hfd]
          simp +contextual -implicitDefEqProofs (maxSteps := 2000000) only [↓wP, wQ, wQ1, wQ2, wQ3, wR, boxE, partsOf, ↓reduceIte, n1w, n2w, n3w, n4w, n5w, n6w, reduceCtorEq, i1w, i2w, i3w, i4w, i5w, h2, h3, h4, h5, h6, h7, w3]
          refine WC_cutB (fun env σ' n' => n' = n2 ∧ env 0 = .ref id 0 N 2 ∧ env 1 = .int .i64 (a : Int) ∧ env 2 = .int .i64 (b : Int) ∧ env 3 = .fn F [] ∧ env 9 = .int .i64 (i2 : Int) ∧ env 10 = .int .i64 (jj : Int) ∧ At σ' σ id (shiftDown ahR (i2 - 1) g0)) ?_ ?_
          · refine WC_loopI 0 (fun (s : Nat × Array Rw) env σ' n' => n' = n2 ∧ env 0 = .ref id 0 N 2 ∧ env 1 = .int .i64 (a : Int) ∧ env 2 = .int .i64 (b : Int) ∧ env 3 = .fn F [] ∧ env 9 = .int .i64 (i2 : Int) ∧ env 10 = .int .i64 (jj : Int) ∧ env 11 = .int .i64 (s.1 : Int) ∧
                s.1 < N ∧ s.2.size = N ∧ At σ' σ id s.2 ∧ shiftDown ahR s.1 s.2 = shiftDown ahR (i2 - 1) g0) (fun s => s.1) ?_ (i2 - 1, g0) _ _ _ ?_
            · clear h2 h3 h4 h5 h6 h7 hsw hx
              intro ⟨j, g⟩ env σ4 n4 ⟨k1, h2, h3, h4, h5, h6, h7, k2, k3, k4, k5, k6⟩
              subst k1
              dsimp only at k2 k3 k4 k5 k6
              have hat := k5.1
              cases j with
              | zero =>
                have hj : ¬ ((1 : Int) ≤ ((0 : Nat) : Int)) := by decide
                simp +contextual -implicitDefEqProofs (maxSteps := 2000000) only [↓wP, wQ, wQ1, wQ2, wQ3, wR, boxE, partsOf, ↓reduceIte, n1w, n2w, n3w, n4w, n5w, n6w, reduceCtorEq, i1w, i2w, i3w, i4w, i5w, h2, h3, h4, h5, h6, h7, k2, hj]
                rw [← k6]
                exact ⟨rfl, rfl, rfl, h2, h3, h4, h5, h6, h7, k5⟩
              | succ j =>
                have hj : (1 : Int) ≤ ((j + 1 : Nat) : Int) := by omega
                have wj : IntKind.i64.wrap (((j + 1 : Nat) : Int) - 1) = (j : Int) := by rw [wrap_i64] <;> omega
                have x1 := rw_at (d := g) (i := j + 1) (by omega)
                have x2 := rw_at (d := g) (i := j) (by omega)
                obtain ⟨u, v, x3⟩ := rw_set_at (d := g) (i := j + 1) (j := j) (x := g[j]!) (by omega)
                have m1 : j + 1 < N := by omega
                have m2 : j < N := by omega
                rw [shiftDown] at k6
                by_cases hc : cmpU (g[j + 1]!).id (g[j]!).id < 0
                · have hah : ahR g[j + 1]! g[j]! = true := by rw [← cmp_lt]; simpa using hc
                  rw [if_neg (by simp [hah])] at k6
                  simp +contextual -implicitDefEqProofs (maxSteps := 2000000) only [↓wP, wQ, wQ1, wQ2, wQ3, wR, boxE, partsOf, ↓reduceIte, n1w, n2w, n3w, n4w, n5w, n6w, reduceCtorEq, i1w, i2w, i3w, i4w, i5w, h2, h3, h4, h5, h6, h7, k2, hj, wj, x1, x2, x3, m1, m2, hat, hF, hc]
                  exact ⟨(j, swp g (j + 1) j), by dsimp only; omega, rfl, by dsimp only; omega, by rw [swp_size, k4], k5.swp _ _, k6⟩
                · have hah : ahR g[j + 1]! g[j]! = false := by rw [← cmp_lt]; simpa using hc
                  rw [if_pos (by simp [hah])] at k6
                  simp +contextual -implicitDefEqProofs (maxSteps := 2000000) only [↓wP, wQ, wQ1, wQ2, wQ3, wR, boxE, partsOf, ↓reduceIte, n1w, n2w, n3w, n4w, n5w, n6w, reduceCtorEq, i1w, i2w, i3w, i4w, i5w, h2, h3, h4, h5, h6, h7, k2, hj, wj, x1, x2, m1, m2, hat, hF, hc]
                  rw [← k6]
                  exact ⟨rfl, rfl, rfl, h2, h3, h4, h5, h6, h7, k5⟩
            · simp +contextual -implicitDefEqProofs (maxSteps := 2000000) only [↓wP, wQ, wQ1, wQ2, wQ3, wR, boxE, partsOf, ↓reduceIte, n1w, n2w, n3w, n4w, n5w, n6w, reduceCtorEq, i1w, i2w, i3w, i4w, i5w, h2, h3, h4, h5, h6, h7]
              exact ⟨l2, hsz, hsw⟩
          · intro env σ' n' hh
            exact ⟨rfl, hh⟩
        · intro hx
          have hx' : ¬ 2 ≤ i2 - a := by have := of_decide_eq_false hx; omega
          have hfd : fixDown ahR a i2 g0 = g0 := by unfold fixDown; rw [if_neg hx']
          rw [hfd]
          simp +contextual -implicitDefEqProofs (maxSteps := 2000000) only [↓wP, wQ, wQ1, wQ2, wQ3, wR, boxE, partsOf, ↓reduceIte, n1w, n2w, n3w, n4w, n5w, n6w, reduceCtorEq, i1w, i2w, i3w, i4w, i5w, h2, h3, h4, h5, h6, h7]
          exact hsw
        · clear h2 h3 h4 h5 h6 h7 hsw
          intro env σ4 n4 ⟨k1, h2, h3, h4, h5, h6, h7, hsw⟩
          subst k1
          have hsz2 : (fixDown ahR a i2 g0).size = N := by
            unfold fixDown
            split
            · rw [shiftD_size, hsz]
            · exact hsz
          generalize fixDown ahR a i2 g0 = g1 at *
          clear hsz
          simp +contextual -implicitDefEqProofs (maxSteps := 2000000) only [↓wP, wQ, wQ1, wQ2, wQ3, wR, boxE, partsOf, ↓reduceIte, n1w, n2w, n3w, n4w, n5w, n6w, reduceCtorEq, i1w, i2w, i3w, i4w, i5w, h2, h3, h4, h5, h6, h7, w6]
          refine condC_cut (fun env σ' n' => n' = n4 ∧ env 0 = .ref id 0 N 2 ∧ env 1 = .int .i64 (a : Int) ∧ env 2 = .int .i64 (b : Int) ∧ env 3 = .fn F [] ∧ env 9 = .int .i64 (i2 : Int) ∧ env 10 = .int .i64 (jj : Int) ∧ At σ' σ id (fixUp ahR b i2 g1) ∧ (fixUp ahR b i2 g1).size = N) ?_ ?_ ?_
          · intro hx
            have hx' : 2 ≤ b - i2 := by have := of_decide_eq_true hx; omega
            have hfd : fixUp ahR b i2 g1 = shiftUp ahR b (i2 + 1) g1 := by unfold fixUp; rw [if_pos hx']
            rw [hfd]
            simp +contextual -implicitDefEqProofs (maxSteps := 2000000) only [↓wP, wQ, wQ1, wQ2, wQ3, wR, boxE, partsOf, ↓reduceIte, n1w, n2w, n3w, n4w, n5w, n6w, reduceCtorEq, i1w, i2w, i3w, i4w, i5w, h2, h3, h4, h5, h6, h7, w4]
            refine WC_cutB (fun env σ' n' => n' = n4 ∧ env 0 = .ref id 0 N 2 ∧ env 1 = .int .i64 (a : Int) ∧ env 2 = .int .i64 (b : Int) ∧ env 3 = .fn F [] ∧ env 9 = .int .i64 (i2 : Int) ∧ env 10 = .int .i64 (jj : Int) ∧ At σ' σ id (shiftUp ahR b (i2 + 1) g1) ∧ (shiftUp ahR b (i2 + 1) g1).size = N) ?_ ?_
            · refine WC_loopI 0 (fun (s : Nat × Array Rw) env σ' n' => n' = n4 ∧ env 0 = .ref id 0 N 2 ∧ env 1 = .int .i64 (a : Int) ∧ env 2 = .int .i64 (b : Int) ∧ env 3 = .fn F [] ∧ env 9 = .int .i64 (i2 : Int) ∧ env 10 = .int .i64 (jj : Int) ∧ env 12 = .int .i64 (s.1 : Int) ∧
                  1 ≤ s.1 ∧ s.1 ≤ b ∧ s.2.size = N ∧ At σ' σ id s.2 ∧ shiftUp ahR b s.1 s.2 = shiftUp ahR b (i2 + 1) g1) (fun s => b - s.1) ?_ (i2 + 1, g1) _ _ _ ?_
              · clear h2 h3 h4 h5 h6 h7 hsw hx
                intro ⟨j, g⟩ env σ5 n5 ⟨k1, h2, h3, h4, h5, h6, h7, k2, k2', k3, k4, k5, k6⟩
                subst k1
                dsimp only at k2 k2' k3 k4 k5 k6
                have hat := k5.1
                rw [shiftUp] at k6
                by_cases hlt : j < b
                · rw [if_pos hlt] at k6
                  have hj : (j : Int) < (b : Int) := by omega
                  have wj : IntKind.i64.wrap ((j : Int) - 1) = ((j - 1 : Nat) : Int) := by rw [wrap_i64] <;> omega
                  have wj2 : IntKind.i64.wrap ((j : Int) + 1) = ((j + 1 : Nat) : Int) := by rw [wrap_i64] <;> omega
                  have x1 := rw_at (d := g) (i := j) (by omega)
                  have x2 := rw_at (d := g) (i := j - 1) (by omega)
                  obtain ⟨u, v, x3⟩ := rw_set_at (d := g) (i := j) (j := j - 1) (x := g[j - 1]!) (by omega)
                  have m1 : j < N := by omega
                  have m2 : j - 1 < N := by omega
                  by_cases hc : cmpU (g[j]!).id (g[j - 1]!).id < 0
                  · have hah : ahR g[j]! g[j - 1]! = true := by rw [← cmp_lt]; simpa using hc
                    rw [if_neg (by simp [hah])] at k6
                    simp +contextual -implicitDefEqProofs (maxSteps := 2000000) only [↓wP, wQ, wQ1, wQ2, wQ3, wR, boxE, partsOf, ↓reduceIte, n1w, n2w, n3w, n4w, n5w, n6w, reduceCtorEq, i1w, i2w, i3w, i4w, i5w, h2, h3, h4, h5, h6, h7, k2, hj, wj, wj2, x1, x2, x3, m1, m2, hat, hF, hc]
                    exact ⟨(j + 1, swp g j (j - 1)), by dsimp only; omega, rfl, by dsimp only; omega, by dsimp only; omega, by rw [swp_size, k4], k5.swp _ _, k6⟩
                  · have hah : ahR g[j]! g[j - 1]! = false := by rw [← cmp_lt]; simpa using hc
                    rw [if_pos (by simp [hah])] at k6
                    simp +contextual -implicitDefEqProofs (maxSteps := 2000000) only [↓wP, wQ, wQ1, wQ2, wQ3, wR, boxE, partsOf, ↓reduceIte, n1w, n2w, n3w, n4w, n5w, n6w, reduceCtorEq, i1w, i2w, i3w, i4w, i5w, h2, h3, h4, h5, h6, h7, k2, hj, wj, wj2, x1, x2, m1, m2, hat, hF, hc]
                    rw [← k6]
                    exact ⟨rfl, rfl, rfl, h2, h3, h4, h5, h6, h7, k5, k4⟩
                · rw [if_neg hlt] at k6
                  have hj : ¬ (j : Int) < (b : Int) := by omega
                  simp +contextual -implicitDefEqProofs (maxSteps := 2000000) only [↓wP, wQ, wQ1, wQ2, wQ3, wR, boxE, partsOf, ↓reduceIte, n1w, n2w, n3w, n4w, n5w, n6w, reduceCtorEq, i1w, i2w, i3w, i4w, i5w, h2, h3, h4, h5, h6, h7, k2, hj]
                  rw [← k6]
                  exact ⟨rfl, rfl, rfl, h2, h3, h4, h5, h6, h7, k5, k4⟩
              · simp +contextual -implicitDefEqProofs (maxSteps := 2000000) only [↓wP, wQ, wQ1, wQ2, wQ3, wR, boxE, partsOf, ↓reduceIte, n1w, n2w, n3w, n4w, n5w, n6w, reduceCtorEq, i1w, i2w, i3w, i4w, i5w, h2, h3, h4, h5, h6, h7]
                exact ⟨by omega, hsz2, hsw⟩
            · intro env σ' n' hh
              exact ⟨rfl, hh⟩
          · intro hx
            have hx' : ¬ 2 ≤ b - i2 := by have := of_decide_eq_false hx; omega
            have hfd : fixUp ahR b i2 g1 = g1 := by unfold fixUp; rw [if_neg hx']
            rw [hfd]
            simp +contextual -implicitDefEqProofs (maxSteps := 2000000) only [↓wP, wQ, wQ1, wQ2, wQ3, wR, boxE, partsOf, ↓reduceIte, n1w, n2w, n3w, n4w, n5w, n6w, reduceCtorEq, i1w, i2w, i3w, i4w, i5w, h2, h3, h4, h5, h6, h7]
            exact ⟨hsw, hsz2⟩
          · clear h2 h3 h4 h5 h6 h7 hsw
            intro env σ5 n5 ⟨k1, h2, h3, h4, h5, h6, h7, hsw, hsz3⟩
            subst k1
            simp +contextual -implicitDefEqProofs (maxSteps := 2000000) only [↓wP, wQ, wQ1, wQ2, wQ3, wR, boxE, partsOf, ↓reduceIte, n1w, n2w, n3w, n4w, n5w, n6w, reduceCtorEq, i1w, i2w, i3w, i4w, i5w, h2, h3, h4, h5, h6, h7, wk]
            exact ⟨((k, i2), fixUp ahR b i2 g1), by dsimp only; omega, rfl, rfl, by dsimp only; omega, by dsimp only; omega, by dsimp only; omega, hsz3, hsw, h13⟩
  · simp +contextual -implicitDefEqProofs (maxSteps := 2000000) only [↓wP, wQ, wQ1, wQ2, wQ3, wR, boxE, partsOf, ↓reduceIte, n1w, n2w, n3w, n4w, n5w, n6w, reduceCtorEq, i1w, i2w, i3w, i4w, i5w]
    exact ⟨rfl, by omega, by omega, hN, At.refl hσ⟩
end Go.Q.SB
end

section
/- A sort of few. -/
set_option linter.unusedSimpArgs false
set_option linter.unusedVariables false
namespace Go.Q.SB
open Go.Q Go.Sort
open Nat renaming reduceEqDiff → n1w, reduceAdd → n2w, reduceSub → n3w, reduceLeDiff → n4w, reduceLT → n5w, reduceMul → n6w
open Int renaming reduceBNe → i1w, reduceBEq → i2w, reduceLT → i3w, reduceLE → i4w, reduceGT → i5w
theorem raw112N (F : Nat) (hF : CmpF F) {d : Array Rw} {N : Nat} (hN : d.size = N) (a b id n : Nat) (σ : Sto) (hab : a ≤ b) (hb : b ≤ N) (hn : N < 1000000) (hσ : σ id = some (.row 2 (rw' d))) {Q : V → Sto → Nat → Prop}
    (hQ : ∀ σ', At σ' σ id (insertionSort ahR d a b) → Q .undef σ' n) :
    run T (.raw 112 [.ref id 0 N 2, .int .i64 (a : Int), .int .i64 (b : Int), .fn F []] σ n 0) (memQ Q) := by subst hN; exact raw112 F hF d a b id n σ hab hb hn hσ hQ
theorem raw114N (F : Nat) (hF : CmpF F) {d : Array Rw} {N : Nat} (hN : d.size = N) (a b id n : Nat) (σ : Sto) (h8 : 8 ≤ b - a) (h60 : b - a < 130) (hb : b ≤ N) (hn : N < 1000000) (hid : id < n) (hσ : σ id = some (.row 2 (rw' d))) {Q : V → Sto → Nat → Prop}
    (hQ : ∀ σ' d' n', n ≤ n' → σ' id = some (.row 2 (rw' d')) → (∀ i, i ≠ id → i < n → σ' i = σ i) → PermIn a b d d' → Q .undef σ' n') :
    run T (.raw 114 [.ref id 0 N 2, .int .i64 (a : Int), .int .i64 (b : Int), .fn F []] σ n 0) (memQ Q) := by subst hN; exact raw114 F hF d a b id n σ h8 h60 hb hn hid hσ hQ
theorem raw116N (F : Nat) (hF : CmpF F) {d : Array Rw} {N : Nat} (hN : d.size = N) (a b id n : Nat) (σ : Sto) (hab : a < b) (hb : b ≤ N) (hn : N < 1000000) (hσ : σ id = some (.row 2 (rw' d))) {Q : V → Sto → Nat → Prop}
    (hQ : ∀ σ' d', At σ' σ id d' → PermIn a b d d' → Q .undef σ' n) :
    run T (.raw 116 [.ref id 0 N 2, .int .i64 (a : Int), .int .i64 (b : Int), .fn F []] σ n 0) (memQ Q) := by subst hN; exact raw116 F hF d a b id n σ hab hb hn hσ hQ
theorem raw118N (F : Nat) (hF : CmpF F) {d : Array Rw} {N : Nat} (hN : d.size = N) (a b p id n : Nat) (σ : Sto) (hap : a ≤ p) (hpb : p < b) (hb : b ≤ N) (hn : N < 1000000) (hσ : σ id = some (.row 2 (rw' d))) {Q : V → Sto → Nat → Prop}
    (hQ : ∀ σ', At σ' σ id (partitionEqual ahR d a b p).2 → Q (.int .i64 ((partitionEqual ahR d a b p).1 : Int)) σ' n) :
    run T (.raw 118 [.ref id 0 N 2, .int .i64 (a : Int), .int .i64 (b : Int), .int .i64 (p : Int), .fn F []] σ n 0) (memQ Q) := by subst hN; exact raw118 F hF d a b p id n σ hap hpb hb hn hσ hQ
theorem raw119N (F : Nat) (hF : CmpF F) {d : Array Rw} {N : Nat} (hN : d.size = N) (a b p id n : Nat) (σ : Sto) (hap : a ≤ p) (hpb : p < b) (hb : b ≤ N) (hn : N < 1000000) (hσ : σ id = some (.row 2 (rw' d))) {Q : V → Sto → Nat → Prop}
    (hQ : ∀ σ', At σ' σ id (partition ahR d a b p).2.2 → Q (.tup [.int .i64 ((partition ahR d a b p).1 : Int), .bool (partition ahR d a b p).2.1]) σ' n) :
    run T (.raw 119 [.ref id 0 N 2, .int .i64 (a : Int), .int .i64 (b : Int), .int .i64 (p : Int), .fn F []] σ n 0) (memQ Q) := by subst hN; exact raw119 F hF d a b p id n σ hap hpb hb hn hσ hQ
theorem frz_row {d : Array Rw} {N id : Nat} {σ : Sto} (hN : d.size = N) (h : σ id = some (.row 2 (rw' d))) (k : Nat) : frz σ (k + 3) (.ref id 0 N 2) = some (.sl 2 (rw' d)) := by
  have hl : N = (rw' d).length := by rw [rw_len, hN]
  rw [hl]
  refine (Fz.ref (S := fun _ => True) h trivial (FzL.trees ?_ ?_)).1
  · intro x hx
    unfold rw' at hx
    obtain ⟨y, -, rfl⟩ := List.mem_map.1 hx
    simp [rwV, Tr, Tr_slV]
  · intro x hx c hc
    unfold rw' at hx
    obtain ⟨y, -, rfl⟩ := List.mem_map.1 hx
    simp only [rwV, V.cells, List.mem_cons, List.not_mem_nil, or_false] at hc
    rcases hc with rfl | rfl
    · rfl
    · exact Tr_slV _ _ _ _
theorem f115 (F : Nat) (hF : CmpF F) (d : Array Rw) (a b id N : Nat) (σ : Sto) (n lk : Nat) (hN : d.size = N) (hσ : σ id = some (.row 2 (rw' d))) (hab : a < b) (hb : b ≤ N) (hn : N < 1000000) :
    ∃ (p : Nat) (h : Int), a ≤ p ∧ p < b ∧ (h = 0 ∨ h = 1 ∨ h = 2) ∧ callE T true 115 [.ref id 0 N 2, .int .i64 (a : Int), .int .i64 (b : Int), .fn F []] σ n lk = some (.tup [.int .i64 (p : Int), .int .i64 h], σ, n) := by
  obtain ⟨p, h, h1, h2, h3, h4⟩ := r115 F hF d a b hab (by omega) (by omega)
  refine ⟨p, h, h1, h2, h3, ?_⟩
  rw [callE_eq (by decide)]
  have e : [V.ref id 0 N 2, .int .i64 (a : Int), .int .i64 (b : Int), .fn F []].mapM (frz σ 12) = some [.sl 2 (rw' d), .int .i64 (a : Int), .int .i64 (b : Int), .fn F []] := by
    simp only [List.mapM_cons, List.mapM_nil, frz_row hN hσ 9, frz_int, frz_fn]
    rfl
  rw [e, callR_some, h4, retE_some, backE_flat rfl]
  rfl
def Pdq (L N a0 b0 : Nat) (d : Array Rw) (a b lim : Nat) (e : Array Rw) : Prop :=
  a ≤ b ∧ b ≤ N ∧ b - a ≤ L ∧ b - a < 130 ∧ lim < 1000 ∧ e.size = N ∧ Below ahR a b e ∧
  ∀ R, PermIn a b e R → SortedIn ahR a b R → PermIn a0 b0 d R ∧ SortedIn ahR a0 b0 R
theorem Pdq.perm {L N a0 b0 a b lim : Nat} {d e e' : Array Rw} (h : Pdq L N a0 b0 d a b lim e) (hp : PermIn a b e e') : Pdq L N a0 b0 d a b lim e' := by
  obtain ⟨h1, h2, h3, h4, h6, h7, h8, h9⟩ := h
  exact ⟨h1, h2, h3, h4, h6, by rw [hp.1, h7], h8.perm (by omega) hp, fun R hR hs => h9 R (permIn_trans _ _ _ _ _ hp hR) hs⟩
theorem bin_quo8 (m : Nat) (h : m < 9223372036854775808) : binV .quo (.int .i64 (m : Int)) (.int .i64 8) = some (.int .i64 ((m / 8 : Nat) : Int)) := by
  rw [bin_quo .i64 (m : Int) 8 (by decide)]
  have e : (m : Int).tdiv 8 = ((m / 8 : Nat) : Int) := rfl
  rw [e, wrap_nat (by omega)]
def Sorts (F L : Nat) : Prop := ∀ (d : Array Rw) (a b lim id n N : Nat) (σ : Sto), b - a < L → a ≤ b → b - a < 130 → b ≤ N → N < 1000000 → lim < 1000 → id < n → d.size = N → σ id = some (.row 2 (rw' d)) →
    Below ahR a b d → ∀ {Q : V → Sto → Nat → Prop}, (∀ σ' d' n', n ≤ n' → σ' id = some (.row 2 (rw' d')) → (∀ i, i ≠ id → i < n → σ' i = σ i) → PermIn a b d d' → SortedIn ahR a b d' → Q .undef σ' n') →
    run T (.raw 103 [.ref id 0 N 2, .int .i64 (a : Int), .int .i64 (b : Int), .int .i64 (lim : Int), .fn F []] σ n 0) (memQ Q)
theorem raw103_step (F : Nat) (hF : CmpF F) (L : Nat) (ih : Sorts F L) : Sorts F (L + 1) := by
  intro d a b lim id n N σ hL hab h50 hb hn hlim hid hN hσ hB Q hQ
  refine run_rawE (fn := g103) rfl rfl ?_
  simp only [g103, b103, oO, oN, mV, lD, gO, pP, qQ, cI, aR]
  simp +contextual -implicitDefEqProofs (maxSteps := 2000000) only [↓wP, wQ, wQ1, wQ2, wQ3, wR, boxE, partsOf, ↓reduceIte, n1w, n2w, n3w, n4w, n5w, n6w, reduceCtorEq, i1w, i2w, i3w, i4w, i5w]
  refine WC_loopI 0 (fun (s : (Nat × Nat) × Nat) env σ' n' => n ≤ n' ∧ env 0 = .ref id 0 N 2 ∧ env 1 = .int .i64 (s.1.1 : Int) ∧ env 2 = .int .i64 (s.1.2 : Int) ∧ env 3 = .int .i64 (s.2 : Int) ∧ env 4 = .fn F [] ∧
      (∃ wb, env 10 = .bool wb) ∧ (∃ wp, env 11 = .bool wp) ∧ (∀ i, i ≠ id → i < n → σ' i = σ i) ∧ ∃ e, Pdq L N a b d s.1.1 s.1.2 s.2 e ∧ σ' id = some (.row 2 (rw' e))) (fun s => s.1.2 - s.1.1) ?_ ((a, b), lim) _ _ _ ?_
  · intro ⟨⟨a', b'⟩, lim'⟩ env σ1 n1 ⟨h1, h2, h3, h4, h5, h6, ⟨wb, h7⟩, ⟨wp, h8⟩, hf, e, hp, h9⟩
    dsimp only at h3 h4 h5 hp
    obtain ⟨p1, p2, p3, p4, p6, p7, p8, p9⟩ := hp
    have hp : Pdq L N a b d a' b' lim' e := ⟨p1, p2, p3, p4, p6, p7, p8, p9⟩
    have w1 : IntKind.i64.wrap ((b' : Int) - (a' : Int)) = ((b' - a' : Nat) : Int) := by rw [wrap_i64] <;> omega
    by_cases hle : b' - a' ≤ 12
    · have hle' : ((b' - a' : Nat) : Int) ≤ 12 := by omega
      simp +contextual -implicitDefEqProofs (maxSteps := 2000000) only [↓wP, wQ, wQ1, wQ2, wQ3, wR, boxE, partsOf, ↓reduceIte, n1w, n2w, n3w, n4w, n5w, n6w, reduceCtorEq, i1w, i2w, i3w, i4w, i5w, h2, h3, h4, h5, h6, w1, hle']
      refine stepW_raw (by decide) (raw112N F hF p7 a' b' id n1 σ1 p1 p2 hn h9 fun σ2 hat => ?_)
      simp +contextual -implicitDefEqProofs (maxSteps := 2000000) only [↓wP, wQ, wQ1, wQ2, wQ3, wR, boxE, partsOf, ↓reduceIte, n1w, n2w, n3w, n4w, n5w, n6w, reduceCtorEq, i1w, i2w, i3w, i4w, i5w]
      have hs := insertionSort_holds (lt := ahR) swoA e a' b' p1 (by omega)
      have hR := p9 _ hs.1 hs.2
      exact hQ _ _ _ h1 hat.1 (fun i hi hin => by rw [hat.2 i hi, hf i hi hin]) hR.1 hR.2
    · have hle' : ¬ ((b' - a' : Nat) : Int) ≤ 12 := by omega
      by_cases hl00 : lim' = 0
      · have hl0 : ((lim' : Int) == 0) = true := by simp [hl00]
        simp +contextual -implicitDefEqProofs (maxSteps := 2000000) only [↓wP, wQ, wQ1, wQ2, wQ3, wR, boxE, partsOf, ↓reduceIte, n1w, n2w, n3w, n4w, n5w, n6w, reduceCtorEq, i1w, i2w, i3w, i4w, i5w, h2, h3, h4, h5, h6, h7, h8, w1, hle', hl0]
        refine stepW_raw (by decide) (raw113 F hF e N a' b' id n1 σ1 p7 (by omega) p2 hn h9 fun σ2 hat => ?_)
        simp +contextual -implicitDefEqProofs (maxSteps := 2000000) only [↓wP, wQ, wQ1, wQ2, wQ3, wR, boxE, partsOf, ↓reduceIte, n1w, n2w, n3w, n4w, n5w, n6w, reduceCtorEq, i1w, i2w, i3w, i4w, i5w]
        have hs := heapSort_holds (lt := ahR) swoA e a' b' p1 (by omega)
        have hR := p9 _ hs.1 hs.2
        exact hQ _ _ _ h1 hat.1 (fun i hi hin => by rw [hat.2 i hi, hf i hi hin]) hR.1 hR.2
      have hl0 : ((lim' : Int) == 0) = false := by simp; omega
      simp +contextual -implicitDefEqProofs (maxSteps := 2000000) only [↓wP, wQ, wQ1, wQ2, wQ3, wR, boxE, partsOf, ↓reduceIte, n1w, n2w, n3w, n4w, n5w, n6w, reduceCtorEq, i1w, i2w, i3w, i4w, i5w, h2, h3, h4, h5, h6, h7, h8, w1, hle', hl0]
      refine condC_cut (fun env' σ' n' => ∃ lim1 e1, n1 ≤ n' ∧ env' 0 = .ref id 0 N 2 ∧ env' 1 = .int .i64 (a' : Int) ∧ env' 2 = .int .i64 (b' : Int) ∧ env' 3 = .int .i64 ((lim1 : Nat) : Int) ∧ env' 4 = .fn F [] ∧
          env' 10 = .bool wb ∧ env' 11 = .bool wp ∧ env' 12 = .int .i64 ((b' - a' : Nat) : Int) ∧ lim' ≤ lim1 + 1 ∧ lim1 ≤ lim' ∧ σ' id = some (.row 2 (rw' e1)) ∧ PermIn a' b' e e1 ∧ (∀ i, i ≠ id → i < n → σ' i = σ i)) ?_ ?_ ?_
      · intro hx
        have wl : IntKind.i64.wrap ((lim' : Int) - 1) = ((lim' - 1 : Nat) : Int) := by rw [wrap_i64] <;> omega
        simp +contextual -implicitDefEqProofs (maxSteps := 2000000) only [↓wP, wQ, wQ1, wQ2, wQ3, wR, boxE, partsOf, ↓reduceIte, n1w, n2w, n3w, n4w, n5w, n6w, reduceCtorEq, i1w, i2w, i3w, i4w, i5w, h2, h3, h4, h5, h6, h7, h8]
        refine stepW_raw (by decide) (raw114N F hF p7 a' b' id n1 σ1 (by omega) (by omega) p2 hn (by omega) h9 fun σ2 d2 n2 g1 g2 g3 g4 => ?_)
        simp +contextual -implicitDefEqProofs (maxSteps := 2000000) only [↓wP, wQ, wQ1, wQ2, wQ3, wR, boxE, partsOf, ↓reduceIte, n1w, n2w, n3w, n4w, n5w, n6w, reduceCtorEq, i1w, i2w, i3w, i4w, i5w, h2, h3, h4, h5, h6, h7, h8, wl]
        refine ⟨lim' - 1, d2, ?_⟩
        have : ∀ i, i ≠ id → i < n → σ2 i = σ i := fun i hi hin => by rw [g3 i hi (by omega), hf i hi hin]
        repeat' (first | assumption | rfl | omega | apply And.intro)
      · intro hx
        simp +contextual -implicitDefEqProofs (maxSteps := 2000000) only [↓wP, wQ, wQ1, wQ2, wQ3, wR, boxE, partsOf, ↓reduceIte, n1w, n2w, n3w, n4w, n5w, n6w, reduceCtorEq, i1w, i2w, i3w, i4w, i5w, h2, h3, h4, h5, h6, h7, h8]
        refine ⟨lim', e, ?_⟩
        have := permIn_refl e a' b'
        repeat' (first | assumption | rfl | omega | apply And.intro)
      · clear h2 h3 h4 h5 h6 h7 h8 hf h9
        intro env σ1 n2 ⟨lim1, e1, hn1, h2, h3, h4, h5, h6, h7, h8, hlen, hl1, hl2, h9, hpm, hf⟩
        have hp1 := hp.perm hpm
        obtain ⟨q1, q2, q3, q4, q6, q7, q8, q9⟩ := hp1
        obtain ⟨p, hh, hp1', hp2', hh3, h115⟩ := f115 F hF e1 a' b' id N σ1 n2 0 q7 h9 (by omega) q2 hn
        simp +contextual -implicitDefEqProofs (maxSteps := 2000000) only [↓wP, wQ, wQ1, wQ2, wQ3, wR, boxE, partsOf, ↓reduceIte, n1w, n2w, n3w, n4w, n5w, n6w, reduceCtorEq, i1w, i2w, i3w, i4w, i5w, h2, h3, h4, h5, h6, h7, h8, hlen, h115]
        refine condC_cut (fun env' σ' n' => ∃ (p' : Nat) (h' : Int) (e2 : Array Rw), n2 ≤ n' ∧ env' 0 = .ref id 0 N 2 ∧ env' 1 = .int .i64 (a' : Int) ∧ env' 2 = .int .i64 (b' : Int) ∧ env' 3 = .int .i64 ((lim1 : Nat) : Int) ∧ env' 4 = .fn F [] ∧
            env' 10 = .bool wb ∧ env' 11 = .bool wp ∧ env' 12 = .int .i64 ((b' - a' : Nat) : Int) ∧ env' 13 = .int .i64 (p' : Int) ∧ env' 14 = .int .i64 h' ∧ a' ≤ p' ∧ p' < b' ∧ σ' id = some (.row 2 (rw' e2)) ∧ PermIn a' b' e e2 ∧ (∀ i, i ≠ id → i < n → σ' i = σ i)) ?_ ?_ ?_
        · intro hx
          have wb1 : IntKind.i64.wrap ((b' : Int) - 1) = ((b' - 1 : Nat) : Int) := by rw [wrap_i64] <;> omega
          have wpa : IntKind.i64.wrap ((p : Int) - (a' : Int)) = ((p - a' : Nat) : Int) := by rw [wrap_i64] <;> omega
          have wpp : IntKind.i64.wrap (((b' - 1 : Nat) : Int) - ((p - a' : Nat) : Int)) = ((b' - 1 - (p - a') : Nat) : Int) := by rw [wrap_i64] <;> omega
          simp +contextual -implicitDefEqProofs (maxSteps := 2000000) only [↓wP, wQ, wQ1, wQ2, wQ3, wR, boxE, partsOf, ↓reduceIte, n1w, n2w, n3w, n4w, n5w, n6w, reduceCtorEq, i1w, i2w, i3w, i4w, i5w, h2, h3, h4, h5, h6, h7, h8, hlen]
          refine stepW_raw (by decide) (raw116N F hF q7 a' b' id n2 σ1 (by omega) q2 hn h9 fun σ2 d2 g1 g2 => ?_)
          simp +contextual -implicitDefEqProofs (maxSteps := 2000000) only [↓wP, wQ, wQ1, wQ2, wQ3, wR, boxE, partsOf, ↓reduceIte, n1w, n2w, n3w, n4w, n5w, n6w, reduceCtorEq, i1w, i2w, i3w, i4w, i5w, h2, h3, h4, h5, h6, h7, h8, hlen, wb1, wpa, wpp]
          refine ⟨b' - 1 - (p - a'), 1, d2, ?_⟩
          have : ∀ i, i ≠ id → i < n → σ2 i = σ i := fun i hi hin => by rw [g1.2 i hi, hf i hi hin]
          have := permIn_trans _ _ _ _ _ hpm g2
          have := g1.1
          repeat' (first | assumption | rfl | omega | apply And.intro)
        · intro hx
          simp +contextual -implicitDefEqProofs (maxSteps := 2000000) only [↓wP, wQ, wQ1, wQ2, wQ3, wR, boxE, partsOf, ↓reduceIte, n1w, n2w, n3w, n4w, n5w, n6w, reduceCtorEq, i1w, i2w, i3w, i4w, i5w, h2, h3, h4, h5, h6, h7, h8, hlen]
          refine ⟨p, hh, e1, ?_⟩
          repeat' (first | assumption | rfl | omega | apply And.intro)
        · clear h2 h3 h4 h5 h6 h7 h8 hlen hpm hf h9 q1 q2 q3 q4 q6 q7 q8 q9 h115
          intro env σ1 n3 ⟨p', h', e2, hn3, h2, h3, h4, h5, h6, h7, h8, hlen, h13, h14, hpa, hpb, h9, hpm, hf⟩
          obtain ⟨q1, q2, q3, q4, q6, q7, q8, q9⟩ := hp.perm hpm
          simp +contextual -implicitDefEqProofs (maxSteps := 2000000) only [↓wP, wQ, wQ1, wQ2, wQ3, wR, boxE, partsOf, ↓reduceIte, n1w, n2w, n3w, n4w, n5w, n6w, reduceCtorEq, i1w, i2w, i3w, i4w, i5w, h2, h3, h4, h5, h6, h7, h8, hlen, h13, h14]
          refine condC_cut (fun env' σ' n' => ∃ (e3 : Array Rw), n3 ≤ n' ∧ env' 0 = .ref id 0 N 2 ∧ env' 1 = .int .i64 (a' : Int) ∧ env' 2 = .int .i64 (b' : Int) ∧ env' 3 = .int .i64 ((lim1 : Nat) : Int) ∧ env' 4 = .fn F [] ∧
              env' 10 = .bool wb ∧ env' 11 = .bool wp ∧ env' 12 = .int .i64 ((b' - a' : Nat) : Int) ∧ env' 13 = .int .i64 (p' : Int) ∧ σ' id = some (.row 2 (rw' e3)) ∧ PermIn a' b' e e3 ∧ (∀ i, i ≠ id → i < n → σ' i = σ i)) ?_ ?_ ?_
          · intro hx
            simp +contextual -implicitDefEqProofs (maxSteps := 2000000) only [↓wP, wQ, wQ1, wQ2, wQ3, wR, boxE, partsOf, ↓reduceIte, n1w, n2w, n3w, n4w, n5w, n6w, reduceCtorEq, i1w, i2w, i3w, i4w, i5w, h2, h3, h4, h5, h6, h7, h8, hlen, h13, h14]
            refine stepW_raw (by decide) (raw117 F hF e2 N a' b' id n3 σ1 q7 (by omega) q2 hn h9 fun σ2 hat => ?_)
            obtain ⟨ps1, ps2⟩ := partialInsertionSort_holds (lt := ahR) swoA e2 a' b' (by omega) (by omega) q8
            generalize (partialInsertionSort ahR e2 a' b').1 = e3 at *
            generalize (partialInsertionSort ahR e2 a' b').2 = r at *
            have hfr : ∀ i, i ≠ id → i < n → σ2 i = σ i := fun i hi hin => by rw [hat.2 i hi, hf i hi hin]
            have hpm3 := permIn_trans _ _ _ _ _ hpm ps1
            cases r
            · simp +contextual -implicitDefEqProofs (maxSteps := 2000000) only [↓wP, wQ, wQ1, wQ2, wQ3, wR, boxE, partsOf, ↓reduceIte, n1w, n2w, n3w, n4w, n5w, n6w, reduceCtorEq, i1w, i2w, i3w, i4w, i5w, h2, h3, h4, h5, h6, h7, h8, hlen, h13, h14]
              exact ⟨e3, hat.1, hpm3, hfr⟩
            · simp +contextual -implicitDefEqProofs (maxSteps := 2000000) only [↓wP, wQ, wQ1, wQ2, wQ3, wR, boxE, partsOf, ↓reduceIte, n1w, n2w, n3w, n4w, n5w, n6w, reduceCtorEq, i1w, i2w, i3w, i4w, i5w, h2, h3, h4, h5, h6, h7, h8, hlen, h13, h14]
              have hR := q9 e3 ps1 (ps2 rfl)
              exact hQ _ _ _ (by omega) hat.1 hfr hR.1 hR.2
          · intro hx
            simp +contextual -implicitDefEqProofs (maxSteps := 2000000) only [↓wP, wQ, wQ1, wQ2, wQ3, wR, boxE, partsOf, ↓reduceIte, n1w, n2w, n3w, n4w, n5w, n6w, reduceCtorEq, i1w, i2w, i3w, i4w, i5w, h2, h3, h4, h5, h6, h7, h8, hlen, h13, h14]
            exact ⟨e2, h9, hpm, hf⟩
          · clear h2 h3 h4 h5 h6 h7 h8 hlen h13 h14 hpm hf h9 q1 q2 q3 q4 q6 q7 q8 q9
            intro env σ2 n4 ⟨e3, hn4, h2, h3, h4, h5, h6, h7, h8, hlen, h13, h9, hpm, hf⟩
            have hn3' : n1 ≤ n4 := by omega
            clear hn4
            rename_i e2old
            obtain ⟨q1, q2, q3, q4, q6, q7, q8, q9⟩ := hp.perm hpm
            generalize e3 = e2 at *
            rw [seqQ_normal, WC_seq]
            refine WC_cut (fun env' σ' n' => n' = n4 ∧ σ' = σ2 ∧ env' 0 = .ref id 0 N 2 ∧ env' 1 = .int .i64 (a' : Int) ∧ env' 2 = .int .i64 (b' : Int) ∧ env' 3 = .int .i64 ((lim1 : Nat) : Int) ∧ env' 4 = .fn F [] ∧
              env' 10 = .bool wb ∧ env' 11 = .bool wp ∧ env' 12 = .int .i64 ((b' - a' : Nat) : Int) ∧ env' 13 = .int .i64 (p' : Int)) ?_ ?_
            · by_cases ha0 : 0 < a'
              · have ha0' : (0 : Int) < (a' : Int) := by omega
                have wa1 : IntKind.i64.wrap ((a' : Int) - 1) = ((a' - 1 : Nat) : Int) := by rw [wrap_i64] <;> omega
                have x1 := rw_at (d := e2) (i := a' - 1) (by omega)
                have x2 := rw_at (d := e2) (i := p') (by omega)
                have l1 : a' - 1 < N := by omega
                have l2 : p' < N := by omega
                by_cases hc : cmpU (e2[a' - 1]!).id (e2[p']!).id < 0
                · simp +contextual -implicitDefEqProofs (maxSteps := 2000000) only [↓wP, wQ, wQ1, wQ2, wQ3, wR, boxE, partsOf, ↓reduceIte, n1w, n2w, n3w, n4w, n5w, n6w, reduceCtorEq, i1w, i2w, i3w, i4w, i5w, h2, h3, h4, h5, h6, h7, h8, hlen, h13, ha0', wa1, h9, x1, x2, l1, l2, hF, hc]
                · have hah : ahR e2[a' - 1]! e2[p']! = false := by rw [← cmp_lt]; simpa using hc
                  simp +contextual -implicitDefEqProofs (maxSteps := 2000000) only [↓wP, wQ, wQ1, wQ2, wQ3, wR, boxE, partsOf, ↓reduceIte, n1w, n2w, n3w, n4w, n5w, n6w, reduceCtorEq, i1w, i2w, i3w, i4w, i5w, h2, h3, h4, h5, h6, h7, h8, hlen, h13, ha0', wa1, h9, x1, x2, l1, l2, hF, hc]
                  refine stepW_raw (by decide) (raw118N F hF q7 a' b' p' id n4 σ2 hpa hpb q2 hn h9 fun σ5 hat => ?_)
                  obtain ⟨r1, r2, r3, r4, r5⟩ := round_eq (lt := ahR) swoA (partitionEqual_holds ahR) (d3 := e2) (d4 := (partitionEqual ahR e2 a' b' p').2) (mid := (partitionEqual ahR e2 a' b' p').1) (a := a') (b := b') (pivot := p') ha0 hpa hpb (by omega) q8 hah rfl
                  simp +contextual -implicitDefEqProofs (maxSteps := 2000000) only [↓wP, wQ, wQ1, wQ2, wQ3, wR, boxE, partsOf, ↓reduceIte, n1w, n2w, n3w, n4w, n5w, n6w, reduceCtorEq, i1w, i2w, i3w, i4w, i5w, h2, h3, h4, h5, h6, h7, h8, hlen, h13]
                  generalize (partitionEqual ahR e2 a' b' p').2 = e3 at *
                  generalize (partitionEqual ahR e2 a' b' p').1 = mid at *
                  have hfr : ∀ i, i ≠ id → i < n → σ5 i = σ i := fun i hi hin => by rw [hat.2 i hi, hf i hi hin]
                  refine ⟨((mid, b'), lim1), by dsimp only; omega, by omega, rfl, rfl, rfl, ⟨_, rfl⟩, ⟨_, rfl⟩, hfr, e3, ⟨r2, q2, by dsimp only; omega, by dsimp only; omega, by dsimp only; omega, by rw [r3, q7], r4, fun R hR hs => ?_⟩, hat.1⟩
                  obtain ⟨t1, t2⟩ := r5 R hR hs
                  exact q9 R t1 t2
              · have ha0' : ¬ (0 : Int) < (a' : Int) := by omega
                simp +contextual -implicitDefEqProofs (maxSteps := 2000000) only [↓wP, wQ, wQ1, wQ2, wQ3, wR, boxE, partsOf, ↓reduceIte, n1w, n2w, n3w, n4w, n5w, n6w, reduceCtorEq, i1w, i2w, i3w, i4w, i5w, h2, h3, h4, h5, h6, h7, h8, hlen, h13, ha0']
            · clear h2 h3 h4 h5 h6 h7 h8 hlen h13
              intro env σ3 n5 ⟨hn5, hs5, h2, h3, h4, h5, h6, h7, h8, hlen, h13⟩
              subst hn5 hs5
              simp +contextual -implicitDefEqProofs (maxSteps := 2000000) only [↓wP, wQ, wQ1, wQ2, wQ3, wR, boxE, partsOf, ↓reduceIte, n1w, n2w, n3w, n4w, n5w, n6w, reduceCtorEq, i1w, i2w, i3w, i4w, i5w, h2, h3, h4, h5, h6, h7, h8, hlen, h13]
              refine stepW_raw (by decide) (raw119N F hF q7 a' b' p' id n5 σ3 hpa hpb q2 hn h9 fun σ5 hat => ?_)
              obtain ⟨r1, r2, r3, r4, r5, r6, r7⟩ := round_part (lt := ahR) swoA (partition_holds ahR) (d3 := e2) (d4 := (partition ahR e2 a' b' p').2.2) (mid := (partition ahR e2 a' b' p').1) (ap := (partition ahR e2 a' b' p').2.1) (a := a') (b := b') (pivot := p') hpa hpb (by omega) q8 rfl
              generalize (partition ahR e2 a' b' p').2.2 = e3 at *
              generalize (partition ahR e2 a' b' p').1 = mid at *
              generalize (partition ahR e2 a' b' p').2.1 = ap at *
              have hfr : ∀ i, i ≠ id → i < n → σ5 i = σ i := fun i hi hin => by rw [hat.2 i hi, hf i hi hin]
              have wma : IntKind.i64.wrap ((mid : Int) - (a' : Int)) = ((mid - a' : Nat) : Int) := by rw [wrap_i64] <;> omega
              have wbm : IntKind.i64.wrap ((b' : Int) - (mid : Int)) = ((b' - mid : Nat) : Int) := by rw [wrap_i64] <;> omega
              have wm1 : IntKind.i64.wrap ((mid : Int) + 1) = ((mid + 1 : Nat) : Int) := by rw [wrap_i64] <;> omega
              have q8' := bin_quo8 (b' - a') (by omega)
              have hsz : e3.size = N := by rw [r3, q7]
              by_cases hlr : mid - a' < b' - mid
              · have hlr' : ((mid - a' : Nat) : Int) < ((b' - mid : Nat) : Int) := by omega
                simp +contextual -implicitDefEqProofs (maxSteps := 2000000) only [↓wP, wQ, wQ1, wQ2, wQ3, wR, boxE, partsOf, ↓reduceIte, n1w, n2w, n3w, n4w, n5w, n6w, reduceCtorEq, i1w, i2w, i3w, i4w, i5w, h2, h3, h4, h5, h6, h7, h8, hlen, h13, wma, wbm, wm1, q8', hlr']
                refine stepW_raw (by decide) (ih e3 a' mid lim1 id n5 N σ5 (by omega) r1 (by omega) (by omega) hn (by omega) (by omega) hsz hat.1 r4 fun σ6 d6 n6 k1 k2 k3 k4 k5 => ?_)
                obtain ⟨t1, t2⟩ := r6 d6 k4 k5
                simp +contextual -implicitDefEqProofs (maxSteps := 2000000) only [↓wP, wQ, wQ1, wQ2, wQ3, wR, boxE, partsOf, ↓reduceIte, n1w, n2w, n3w, n4w, n5w, n6w, reduceCtorEq, i1w, i2w, i3w, i4w, i5w, h2, h3, h4, h5, h6, h7, h8, hlen, h13, wm1]
                have hfr2 : ∀ i, i ≠ id → i < n → σ6 i = σ i := fun i hi hin => by rw [k3 i hi (by omega), hfr i hi hin]
                refine ⟨((mid + 1, b'), lim1), by dsimp only; omega, by omega, rfl, rfl, rfl, ⟨_, rfl⟩, ⟨_, rfl⟩, hfr2, d6, ⟨by dsimp only; omega, q2, by dsimp only; omega, by dsimp only; omega, by dsimp only; omega, by rw [k4.1, hsz], t1, fun R hR hs => ?_⟩, k2⟩
                obtain ⟨u1, u2⟩ := t2 R hR hs
                exact q9 R u1 u2
              · have hlr' : ¬ ((mid - a' : Nat) : Int) < ((b' - mid : Nat) : Int) := by omega
                simp +contextual -implicitDefEqProofs (maxSteps := 2000000) only [↓wP, wQ, wQ1, wQ2, wQ3, wR, boxE, partsOf, ↓reduceIte, n1w, n2w, n3w, n4w, n5w, n6w, reduceCtorEq, i1w, i2w, i3w, i4w, i5w, h2, h3, h4, h5, h6, h7, h8, hlen, h13, wma, wbm, wm1, q8', hlr']
                refine stepW_raw (by decide) (ih e3 (mid + 1) b' lim1 id n5 N σ5 (by omega) (by omega) (by omega) q2 hn (by omega) (by omega) hsz hat.1 r5 fun σ6 d6 n6 k1 k2 k3 k4 k5 => ?_)
                obtain ⟨t1, t2⟩ := r7 d6 k4 k5
                simp +contextual -implicitDefEqProofs (maxSteps := 2000000) only [↓wP, wQ, wQ1, wQ2, wQ3, wR, boxE, partsOf, ↓reduceIte, n1w, n2w, n3w, n4w, n5w, n6w, reduceCtorEq, i1w, i2w, i3w, i4w, i5w, h2, h3, h4, h5, h6, h7, h8, hlen, h13]
                have hfr2 : ∀ i, i ≠ id → i < n → σ6 i = σ i := fun i hi hin => by rw [k3 i hi (by omega), hfr i hi hin]
                refine ⟨((a', mid), lim1), by dsimp only; omega, by omega, rfl, rfl, rfl, ⟨_, rfl⟩, ⟨_, rfl⟩, hfr2, d6, ⟨by dsimp only; omega, by dsimp only; omega, by dsimp only; omega, by dsimp only; omega, by dsimp only; omega, by rw [k4.1, hsz], t1, fun R hR hs => ?_⟩, k2⟩
                obtain ⟨u1, u2⟩ := t2 R hR hs
                exact q9 R u1 u2
  · simp +contextual -implicitDefEqProofs (maxSteps := 2000000) only [↓wP, wQ, wQ1, wQ2, wQ3, wR, boxE, partsOf, ↓reduceIte, n1w, n2w, n3w, n4w, n5w, n6w, reduceCtorEq, i1w, i2w, i3w, i4w, i5w]
    exact ⟨⟨true, rfl⟩, ⟨true, rfl⟩, fun _ _ _ => trivial, d, ⟨hab, hb, by omega, h50, hlim, hN, hB, fun R hR hs => ⟨hR, hs⟩⟩, hσ⟩
theorem raw103 (F : Nat) (hF : CmpF F) : ∀ L : Nat, Sorts F L
  | 0 => fun _ _ _ _ _ _ _ _ h => absurd h (by omega)
  | L + 1 => raw103_step F hF L (raw103 F hF L)
def chk104 (m : Nat) : Bool := match exJob T 60 (.pure 104 [.int .u64 (m : Int)]) with
  | some (.val (.int .i64 M)) => decide (0 ≤ M ∧ M < 1000)
  | _ => false
theorem all104 : (List.range 129).all chk104 = true := by decide +kernel
theorem r104 (m : Nat) (h : m < 129) : ∃ M : Nat, M < 1000 ∧ res T 104 [.int .u64 (m : Int)] = some (.int .i64 (M : Int)) := by
  have h := List.all_eq_true.1 all104 m (List.mem_range.2 h)
  unfold chk104 at h
  split at h
  · rename_i M hM
    simp only [decide_eq_true_eq] at h
    refine ⟨M.toNat, by omega, ?_⟩
    rw [show ((M.toNat : Nat) : Int) = M by omega]
    exact run_res (exJob_sound 60 _ _ hM)
  · cases h
theorem raw75 (F : Nat) (hF : CmpF F) (d : Array Rw) (id n : Nat) (σ : Sto) (hd : d.size < 129) (hid : id < n) (hσ : σ id = some (.row 2 (rw' d))) {Q : V → Sto → Nat → Prop}
    (hQ : ∀ σ' d' n', n ≤ n' → σ' id = some (.row 2 (rw' d')) → (∀ i, i ≠ id → i < n → σ' i = σ i) → PermIn 0 d.size d d' → SortedIn ahR 0 d.size d' → Q .undef σ' n') :
    run T (.raw 75 [.ref id 0 d.size 2, .fn F []] σ n 0) (memQ Q) := by
  refine run_rawE (fn := g75) rfl rfl ?_
  simp only [g75, b75, oO, oN, mV, lD, gO, pP, qQ, cI, aR]
  obtain ⟨M, h2, h3⟩ := r104 d.size hd
  have f104 := callE_tr (fs := true) (by decide) h3 (by simp [Tr]) rfl
  have wu : IntKind.u64.wrap ((d.size : Nat) : Int) = ((d.size : Nat) : Int) := by rw [wrap_u64] <;> omega
  simp +contextual -implicitDefEqProofs (maxSteps := 2000000) only [↓wP, wQ, wQ1, wQ2, wQ3, wR, boxE, partsOf, ↓reduceIte, n1w, n2w, n3w, n4w, n5w, n6w, reduceCtorEq, i1w, i2w, i3w, i4w, i5w, wu, f104]
  refine stepW_raw (by decide) (raw103 F hF (d.size + 1) d 0 d.size M id n d.size σ (by omega) (by omega) (by omega) (by omega) (by omega) h2 hid rfl hσ (.inl rfl) fun σ' d' n' k1 k2 k3 k4 k5 => ?_)
  simp +contextual -implicitDefEqProofs (maxSteps := 2000000) only [↓wP, wQ, wQ1, wQ2, wQ3, wR, boxE, partsOf, ↓reduceIte, n1w, n2w, n3w, n4w, n5w, n6w, reduceCtorEq, i1w, i2w, i3w, i4w, i5w]
  exact hQ σ' d' n' k1 k2 k3 k4 k5
end Go.Q.SB
end

section
/- Rows at a time: facts gone over, a map's rows. -/
set_option linter.unusedSimpArgs false
set_option linter.unusedVariables false
namespace Go.Q.SB
open Go.Q Go.Sort
open Nat renaming reduceEqDiff → n1w, reduceAdd → n2w, reduceSub → n3w, reduceLeDiff → n4w, reduceLT → n5w, reduceMul → n6w
open Int renaming reduceBNe → i1w, reduceBEq → i2w, reduceLT → i3w, reduceLE → i4w, reduceGT → i5w
theorem r74 (v : Vc) (h : (lst v).length ≤ 1000000) : res T 74 [slV 1 i32V v] = some (slV 1 i32V v) := by
  refine run_res (run_pure (fn := g74) rfl rfl (by decide) ?_)
  simp only [g74, b74, oO, oN, mV, lD, gO, pP, qQ, cI, aR]
  cases v with
  | none => simp +contextual -implicitDefEqProofs (maxSteps := 2000000) only [↓wP, wQ, wQ1, wQ2, wQ3, wR, boxE, partsOf, ↓reduceIte, n1w, n2w, n3w, n4w, n5w, n6w, reduceCtorEq, i1w, i2w, i3w, i4w, i5w, slV_none, Option.isNone_none]
  | some l =>
    rw [lst_some] at h
    have hl : (l.map i32V).length * 4 ≤ LIM := by rw [List.length_map]; unfold LIM; omega
    simp +contextual -implicitDefEqProofs (maxSteps := 2000000) only [↓wP, wQ, wQ1, wQ2, wQ3, wR, boxE, partsOf, ↓reduceIte, n1w, n2w, n3w, n4w, n5w, n6w, reduceCtorEq, i1w, i2w, i3w, i4w, i5w, slV_some, hl, true_or]
    have := (fz_vec (σ := upd (upd (upd Sto.empty 0 (some (.row 1 []))) 0 none) 1 (some (.row 1 (l.map i32V)))) (i := 1) (L := l) (by simp [upd]) (S := fun _ => True) trivial)
    have h12 := (Fz.ref (k := 11) (S := fun _ => True) (σ := upd (upd (upd Sto.empty 0 (some (.row 1 []))) 0 none) 1 (some (.row 1 (l.map i32V)))) (id := 1) (sz := 1) (xs := l.map i32V) (by simp [upd]) trivial (FzL.trees (fun y hy => by obtain ⟨t, -, rfl⟩ := List.mem_map.1 hy; rfl) (fun y hy c hc => by obtain ⟨t, -, rfl⟩ := List.mem_map.1 hy; simp [i32V, V.cells] at hc; subst hc; rfl))).1
    simpa using h12
theorem f74 (v : Vc) (h : (lst v).length ≤ 1000000) (fs : Bool) (σ : Sto) (n lk : Nat) : callE T fs 74 [slV 1 i32V v] σ n lk = some (slV 1 i32V v, σ, n) :=
  callE_tr (by decide) (r74 v h) (by simp [Tr, Tr_slV]) (Nw_slV _ _ _ _) fs σ n lk
theorem r65 (l : Option (List Fa)) (G : V) (hG : frz (upd (upd Sto.empty 0 (some (.row 1 [slV 5 faV l]))) 1 (some (.row 1 [G]))) 10 G = some G) (hG1 : G.one = true) (hG2 : G.cells = [G]) : res T 65 [slV 5 faV l, G] = some (.fn 97 [.box [slV 5 faV l], .box [G]]) := by
  refine run_res (run_pure (fn := g65) rfl rfl (by decide) ?_)
  simp only [g65, b65, oO, oN, mV, lD, gO, pP, qQ, cI, aR]
  simp +contextual -implicitDefEqProofs (maxSteps := 2000000) only [↓wP, wQ, wQ1, wQ2, wQ3, wR, boxE, partsOf, ↓reduceIte, n1w, n2w, n3w, n4w, n5w, n6w, reduceCtorEq, i1w, i2w, i3w, i4w, i5w, hG1, hG2, hG]
  done
def cnt (c t : Int) (f : Fa) : Bool := f.w.c == c && decide (f.ts ≤ t)
theorem r95 (f : Fa) (c t : Int) : res T 95 [faV f, .box [.int .i64 c], .box [.int .u64 t]] = some (.bool (cnt c t f)) := by
  refine run_res (run_pure (fn := g95) rfl rfl (by decide) ?_)
  simp only [g95, b95, oO, oN, mV, lD, gO, pP, qQ, cI, aR]
  obtain ⟨ts, ⟨wc, id, g, v⟩⟩ := f
  unfold cnt
  simp only
  cases hc : (wc == c)
  · simp +contextual -implicitDefEqProofs (maxSteps := 2000000) only [↓wP, wQ, wQ1, wQ2, wQ3, wR, boxE, partsOf, ↓reduceIte, n1w, n2w, n3w, n4w, n5w, n6w, reduceCtorEq, i1w, i2w, i3w, i4w, i5w, faV_eq, hc]
  · simp +contextual -implicitDefEqProofs (maxSteps := 2000000) only [↓wP, wQ, wQ1, wQ2, wQ3, wR, boxE, partsOf, ↓reduceIte, n1w, n2w, n3w, n4w, n5w, n6w, reduceCtorEq, i1w, i2w, i3w, i4w, i5w, faV_eq, hc]
theorem f95 (f : Fa) (c t : Int) (fs : Bool) (σ : Sto) (n lk : Nat) : callE T fs 95 [faV f, .box [.int .i64 c], .box [.int .u64 t]] σ n lk = some (.bool (cnt c t f), σ, n) :=
  callE_tr (by decide) (r95 f c t) (by simp [Tr, Tr_slV, faV_eq]) rfl fs σ n lk
theorem r66 (f : Fa) (c : Int) : res T 66 [faV f, .box [.int .i64 c]] = some (.bool (f.w.c != c)) := by
  refine run_res (run_pure (fn := g66) rfl rfl (by decide) ?_)
  simp only [g66, b66, oO, oN, mV, lD, gO, pP, qQ, cI, aR]
  simp +contextual -implicitDefEqProofs (maxSteps := 2000000) only [↓wP, wQ, wQ1, wQ2, wQ3, wR, boxE, partsOf, ↓reduceIte, n1w, n2w, n3w, n4w, n5w, n6w, reduceCtorEq, i1w, i2w, i3w, i4w, i5w, faV_eq]
theorem f66 (f : Fa) (c : Int) (fs : Bool) (σ : Sto) (n lk : Nat) : callE T fs 66 [faV f, .box [.int .i64 c]] σ n lk = some (.bool (f.w.c != c), σ, n) :=
  callE_tr (by decide) (r66 f c) (by simp [Tr, Tr_slV, faV_eq]) rfl fs σ n lk
theorem r59 (c : Int) : res T 59 [.int .i64 c] = some (.int .i64 (if collB c = true then 0 else 2)) := by
  refine run_res (run_pure (fn := g59) rfl rfl (by decide) ?_)
  simp only [g59, b59, oO, oN, mV, lD, gO, pP, qQ, cI, aR]
  unfold collB
  by_cases h1 : c < 0
  · have e : decide (0 ≤ c) = false := decide_eq_false (by omega)
    rw [e]
    simp +contextual -implicitDefEqProofs (maxSteps := 2000000) only [↓wP, wQ, wQ1, wQ2, wQ3, wR, boxE, partsOf, ↓reduceIte, n1w, n2w, n3w, n4w, n5w, n6w, reduceCtorEq, i1w, i2w, i3w, i4w, i5w, h1]
  · have e : decide (0 ≤ c) = true := decide_eq_true (by omega)
    rw [e]
    by_cases h2 : 3 ≤ c
    · have e : decide (c < 3) = false := decide_eq_false (by omega)
      rw [e]
      simp +contextual -implicitDefEqProofs (maxSteps := 2000000) only [↓wP, wQ, wQ1, wQ2, wQ3, wR, boxE, partsOf, ↓reduceIte, n1w, n2w, n3w, n4w, n5w, n6w, reduceCtorEq, i1w, i2w, i3w, i4w, i5w, h1, h2]
    · have e : decide (c < 3) = true := decide_eq_true (by omega)
      rw [e]
      simp +contextual -implicitDefEqProofs (maxSteps := 2000000) only [↓wP, wQ, wQ1, wQ2, wQ3, wR, boxE, partsOf, ↓reduceIte, n1w, n2w, n3w, n4w, n5w, n6w, reduceCtorEq, i1w, i2w, i3w, i4w, i5w, h1, h2]
theorem f59 (c : Int) (fs : Bool) (σ : Sto) (n lk : Nat) : callE T fs 59 [.int .i64 c] σ n lk = some (.int .i64 (if collB c = true then 0 else 2), σ, n) :=
  callE_tr (by decide) (r59 c) (by simp [Tr, Tr_slV]) rfl fs σ n lk
theorem that97 (l : Option (List Fa)) (F : Nat) (caps : List V) (p : Fa → Bool) (J : Nat → Sto → Nat → Prop) (lid : Nat) (hl : (lst l).length ≤ 1000000)
    (hp : ∀ f fs σ n lk, callE T fs F (faV f :: caps) σ n lk = some (.bool (p f), σ, n))
    (hal : ∀ j σ n σ', J j σ n → (∀ i, i ≠ n → σ' i = σ i) → J j σ' (n + 1))
    (hs : ∀ j σ n (h : j < (lst l).length), J j σ n → p (lst l)[j] = false → J (j + 1) σ n)
    (hy : ∀ j σ n (h : j < (lst l).length), J j σ n → p (lst l)[j] = true → yieldW (run T) lid [faV (lst l)[j]] σ n 0 (fun y σ' n' => y = .bool true ∧ J (j + 1) σ' n'))
    (σ0 : Sto) (n0 : Nat) (h0 : J 0 σ0 n0) : run T (.raw 97 [.yld lid, .box [slV 5 faV l], .box [.fn F caps]] σ0 n0 0) (memQ fun _ σ' n' => J (lst l).length σ' n') := by
  refine run_rawE (fn := g97) rfl rfl ?_
  simp only [g97, b97, oO, oN, mV, lD, gO, pP, qQ, cI, aR]
  simp +contextual -implicitDefEqProofs (maxSteps := 2000000) only [↓wP, wQ, wQ1, wQ2, wQ3, wR, boxE, partsOf, ↓reduceIte, n1w, n2w, n3w, n4w, n5w, n6w, reduceCtorEq, i1w, i2w, i3w, i4w, i5w]
  refine WC_for (lst l).length 0 (fun (j : Nat) env σ n => env 0 = .yld lid ∧ env 2 = .box [.fn F caps] ∧ env 6 = slV 5 faV l ∧ J j σ n) (by omega) (by decide) (by decide) (fun _ _ => rfl) (fun _ _ _ => rfl) ?_ ?_ _ _ _ rfl rfl ?_
  · intro j env σ n hj h1 h2 ⟨g1, g2, g3, g4⟩
    simp only [vl_tmp] at h2
    have hx : (lst l)[j]? = some (lst l)[j] := List.getElem?_eq_getElem hj
    have hs' := hs j
    have hy' := hy j
    obtain ⟨x, hxx⟩ : ∃ x, x = (lst l)[j] := ⟨_, rfl⟩
    rw [← hxx] at hx
    have hp' := hp x
    rw [faV_eq] at hp'
    obtain ⟨σ1, hσ1⟩ : ∃ σ1, σ1 = upd (upd σ n (some (.row 5 [.agg [.int .u64 0, .int .i64 0, .int .u64 0, .bool false, .nilS]]))) n (some (.row 5 [.agg [.int .u64 x.ts, .int .i64 x.w.c, .int .u64 x.w.id, .bool x.w.g, slV 1 i32V x.w.v]])) := ⟨_, rfl⟩
    have sn : σ1 n = some (.row 5 [.agg [.int .u64 x.ts, .int .i64 x.w.c, .int .u64 x.w.id, .bool x.w.g, slV 1 i32V x.w.v]]) := by rw [hσ1, upd_self]
    have hJ1 := hal j σ n σ1 g4 (fun i hi => by rw [hσ1, upd_ne hi, upd_ne hi])
    cases hq : p x
    · rw [hq] at hp'
      have hn := hs' σ1 (n + 1) hj hJ1 (by rw [← hxx]; exact hq)
      simp +contextual -implicitDefEqProofs (maxSteps := 2000000) only [↓wP, wQ, wQ1, wQ2, wQ3, wR, boxE, partsOf, ↓reduceIte, n1w, n2w, n3w, n4w, n5w, n6w, reduceCtorEq, i1w, i2w, i3w, i4w, i5w, h1, h2, g1, g2, g3, hx, faV_eq, ← hσ1, sn, hp']
      exact hn
    · rw [hq] at hp'
      have hn := hy' σ1 (n + 1) hj hJ1 (by rw [← hxx]; exact hq)
      rw [← hxx, faV_eq] at hn
      simp +contextual -implicitDefEqProofs (maxSteps := 2000000) only [↓wP, wQ, wQ1, wQ2, wQ3, wR, boxE, partsOf, ↓reduceIte, n1w, n2w, n3w, n4w, n5w, n6w, reduceCtorEq, i1w, i2w, i3w, i4w, i5w, h1, h2, g1, g2, g3, hx, faV_eq, ← hσ1, sn, hp']
      refine stepW_yld (yieldW_mono (fun _ _ x => x) run_mono (fun y σ' n' ⟨hy1, hy2⟩ => ?_) hn)
      subst hy1
      simp +contextual -implicitDefEqProofs (maxSteps := 2000000) only [↓wP, wQ, wQ1, wQ2, wQ3, wR, boxE, partsOf, ↓reduceIte, n1w, n2w, n3w, n4w, n5w, n6w, reduceCtorEq, i1w, i2w, i3w, i4w, i5w, h1, h2, g1, g2, g3]
      exact hy2
  · intro env σ n ⟨g1, g2, g3, g4⟩ h1 h2
    simp +contextual -implicitDefEqProofs (maxSteps := 2000000) only [↓wP, wQ, wQ1, wQ2, wQ3, wR, boxE, partsOf, ↓reduceIte, n1w, n2w, n3w, n4w, n5w, n6w, reduceCtorEq, i1w, i2w, i3w, i4w, i5w]
    exact g4
  · exact ⟨rfl, rfl, rfl, h0⟩
end Go.Q.SB
end

section
/- The rows at a time: the loop over facts. -/
set_option linter.unusedSimpArgs false
set_option linter.unusedVariables false
namespace Go.Q.SB
open Go.Q Go.Sort
open Nat renaming reduceEqDiff → n1w, reduceAdd → n2w, reduceSub → n3w, reduceLeDiff → n4w, reduceLT → n5w, reduceMul → n6w
open Int renaming reduceBNe → i1w, reduceBEq → i2w, reduceLT → i3w, reduceLE → i4w, reduceGT → i5w
def nowStep (c t : Int) (R : List Rw) (f : Fa) : List Rw := if cnt c t f = true then ovStep R f.w else R
def nowR (l : List Fa) (c t : Int) : List Rw := l.foldl (nowStep c t) []
theorem nowR_snoc (l : List Fa) (f : Fa) (c t : Int) : nowR (l ++ [f]) c t = nowStep c t (nowR l c t) f := by unfold nowR; rw [List.foldl_append]; rfl
theorem nowR_take {l : List Fa} {j : Nat} (h : j < l.length) (c t : Int) : nowR (l.take (j + 1)) c t = nowStep c t (nowR (l.take j) c t) l[j] := by
  rw [← List.take_append_getElem h, nowR_snoc]
theorem nowLoop {env : Nat → V} {σ : Sto} {n : Nat} {Q : Ex → St → Prop} (l : Option (List Fa)) (c t : Int) (hl : (lst l).length ≤ 1000000)
    (hg : env 15 = .fn 97 [.box [slV 5 faV l], .box [.fn 95 [.box [.int .i64 c], .box [.int .u64 t]]]]) (hm : env 7 = .ptr 3 1 0 0) (h3 : σ 3 = some (.row 1 [.mp 2])) (h2 : σ 2 = some (.map (ens uV vV []) 0)) (hn : 4 ≤ n)
    (hQ : ∀ σ' n', (∀ i, i < n → i ≠ 2 → σ' i = σ i) → n ≤ n' → (∃ Lm clk, MOk Lm clk ∧ σ' 2 = some (.map (ens uV vV Lm) clk) ∧ RM (nowR (lst l) c t) Lm) → Q .normal ⟨env, σ', n', 0⟩) :
    WC T (.rangeF (.tmp 15) [16] (.reg [⟨some 8, none, .alloc (.agg [.int .u64 0, .int .i64 0, .int .u64 0, .bool false, .nilS])⟩, ⟨none, none, .store 5 (.tmp 8) (.tmp 16)⟩])
      (.block 1 (.seq (.reg [⟨some 17, none, .faddr (.tmp 8) 1⟩, ⟨some 18, none, .faddr (.tmp 17) 2⟩, ⟨some 19, none, .load false 1 (.tmp 18)⟩])
       (.cond (.tmp 19)
        (.reg [⟨some 20, none, .load false 1 (.tmp 7)⟩, ⟨some 21, none, .faddr (.tmp 8) 1⟩, ⟨some 22, none, .faddr (.tmp 21) 1⟩, ⟨some 23, none, .load false 1 (.tmp 22)⟩, ⟨none, none, .mdel (.one .int) (.tmp 20) (.tmp 23)⟩])
        (.reg [⟨some 24, none, .load false 1 (.tmp 7)⟩, ⟨some 25, none, .faddr (.tmp 8) 1⟩, ⟨some 26, none, .faddr (.tmp 25) 1⟩, ⟨some 27, none, .load false 1 (.tmp 26)⟩, ⟨some 28, none, .faddr (.tmp 8) 1⟩, ⟨some 29, none, .faddr (.tmp 28) 3⟩, ⟨some 30, none, .load false 1 (.tmp 29)⟩,
          ⟨none, none, .mupd (.one .int) (.tmp 24) (.tmp 27) (.tmp 30)⟩]))))) env σ n 0 Q := by
  refine WC_rangeF hg (Nat.zero_le _) ?_
  generalize hA : AC.reg [⟨some 8, none, .alloc (.agg [.int .u64 0, .int .i64 0, .int .u64 0, .bool false, .nilS])⟩, ⟨none, none, .store 5 (.tmp 8) (.tmp 16)⟩] = asg
  generalize hB : AC.block 1 _ = bd
  refine run_mono _ _ _ (fun o ho => ?_) (that97 l 95 [.box [.int .i64 c], .box [.int .u64 t]] (cnt c t) (fun j σ' n' => n < n' ∧ (∀ i, i < n → i ≠ 2 → σ' i = σ i) ∧ σ' n = some (.loop env [16] asg bd .ready none) ∧
    ∃ Lm clk, MOk Lm clk ∧ σ' 2 = some (.map (ens uV vV Lm) clk) ∧ RM (nowR ((lst l).take j) c t) Lm) n hl (fun f fs σ n lk => f95 f c t fs σ n lk) ?_ ?_ ?_ _ _ ?_)
  · cases o <;> try exact ho.elim
    obtain ⟨e1, e2, e3, Lm, clk, m1, m2, m3⟩ := ho
    rw [List.take_length] at m3
    refine ⟨_, _, _, _, _, _, e3, by decide, ?_⟩
    exact hQ _ _ (fun i hi h2 => by rw [upd_ne (by omega)]; exact e2 i hi h2) (by omega) ⟨Lm, clk, m1, by rw [upd_ne (by omega)]; exact m2, m3⟩
  · rintro j σ' n' σ2 ⟨e1, e2, e3, Lm, clk, m1, m2, m3⟩ hσ
    exact ⟨by omega, fun i hi h2 => by rw [hσ i (by omega)]; exact e2 i hi h2, by rw [hσ n (by omega)]; exact e3, Lm, clk, m1, by rw [hσ 2 (by omega)]; exact m2, m3⟩
  · rintro j σ' n' hj ⟨e1, e2, e3, Lm, clk, m1, m2, m3⟩ hp
    refine ⟨e1, e2, e3, Lm, clk, m1, m2, ?_⟩
    rw [nowR_take hj]
    unfold nowStep
    rw [hp]
    exact m3
  · rintro j σ' n' hj ⟨e1, e2, e3, Lm, clk, m1, m2, m3⟩ hp
    have hst : nowR ((lst l).take (j + 1)) c t = ovStep (nowR ((lst l).take j) c t) (lst l)[j].w := by rw [nowR_take hj]; unfold nowStep; rw [if_pos hp]
    generalize (lst l)[j] = x at *
    subst hA
    subst hB
    refine yieldW_go e3 rfl (Nat.zero_le _) ?_
    have a1 : (n = n') = False := by simp; omega
    have a2 : (n' = n) = False := by simp; omega
    have a3 : (3 = n') = False := by simp; omega
    have a4 : (3 = n) = False := by simp; omega
    have a5 : (2 = n') = False := by simp; omega
    have a6 : (2 = n) = False := by simp; omega
    have a7 : (n = 2) = False := by simp; omega
    have a8 : (n' = 2) = False := by simp; omega
    have a9 : ((3 : Nat) = 2) = False := by simp
    have s3 : σ' 3 = some (.row 1 [.mp 2]) := by rw [e2 3 (by omega) (by decide)]; exact h3
    rw [faV_eq]
    have pd := fun (σX : Sto) (h : σX 2 = some (.map (ens uV vV Lm) clk)) (nn : Nat) => mdel_ens (ke := uV) (ve := vV) (lk := 0) keyU m1 h (Nat.zero_le _) x.w.id nn
    have pu := fun (σX : Sto) (h : σX 2 = some (.map (ens uV vV Lm) clk)) (nn : Nat) => mupd_ens (ke := uV) (ve := vV) (lk := 0) keyU m1 h (Nat.zero_le _) x.w.id x.w.v nn
    simp only [uV, vV] at pd pu
    cases hg : x.w.g
    · have hov : ovStep (nowR ((lst l).take j) c t) x.w = putR (nowR ((lst l).take j) c t) ⟨x.w.id, x.w.v⟩ := by unfold ovStep; rw [hg]; rfl
      simp +contextual -implicitDefEqProofs (maxSteps := 2000000) only [↓wP, wQ, wQ1, wQ2, wQ3, wR, boxE, partsOf, ↓reduceIte, n1w, n2w, n3w, n4w, n5w, n6w, reduceCtorEq, i1w, i2w, i3w, i4w, i5w, bind_cons, bind_nil, hm, e3, s3, m2, a1, a2, a3, a4, a5, a6, a7, a8, a9, pu]
      refine ⟨by omega, fun i hi h2 => ?_, _, _, mput_ok m1 _ _, rfl, by rw [hst, hov]; exact m3.put m1 ⟨x.w.id, x.w.v⟩⟩
      have c1 : i ≠ n := by omega
      have c2 : i ≠ n' := by omega
      simp only [c1, c2, h2, if_false]
      exact e2 i hi h2
    · have hov : ovStep (nowR ((lst l).take j) c t) x.w = delR (nowR ((lst l).take j) c t) x.w.id := by unfold ovStep; rw [hg]; rfl
      simp +contextual -implicitDefEqProofs (maxSteps := 2000000) only [↓wP, wQ, wQ1, wQ2, wQ3, wR, boxE, partsOf, ↓reduceIte, n1w, n2w, n3w, n4w, n5w, n6w, reduceCtorEq, i1w, i2w, i3w, i4w, i5w, bind_cons, bind_nil, hm, e3, s3, m2, a1, a2, a3, a4, a5, a6, a7, a8, a9, pd]
      refine ⟨by omega, fun i hi h2 => ?_, _, _, mdel_ok m1 _, rfl, by rw [hst, hov]; exact m3.del x.w.id⟩
      have c1 : i ≠ n := by omega
      have c2 : i ≠ n' := by omega
      simp only [c1, c2, h2, if_false]
      exact e2 i hi h2
  · exact ⟨by omega, fun i hi _ => upd_ne (by omega), upd_self _ _ _, [], 0, MOk.nil, by rw [upd_ne (by omega)]; exact h2, RM.nil⟩
end Go.Q.SB
end
