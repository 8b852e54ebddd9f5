/- What a transaction sees: writes of a collection, rows told one by one. -/
import Derived.Test.YtppdkahgmojipaaSA
set_option linter.unusedVariables false
set_option linter.unusedSimpArgs false
set_option linter.unusedSectionVars false
set_option linter.defProp false
section
namespace Go.Q.SU
open Go.Q Go.Sort
def ofW (l : List Wr) (c : Int) : List Wr := if rightW l = true then l.filter fun w => w.c == c else []
theorem r21 (l : Option (List Wr)) (c : Int) (h : FitW (lst l)) : res T 21 [slV 4 wrV l, .int .i64 c] = some (slV 4 wrV (oL (ofW (lst l) c))) := by
 refine run_res (run_pure (fn := g21) rfl rfl (by decide) ?_)
 simp only [g21, b21, zO, zN, zM, zL, zG, zP, zQ, zI, zA, zT, zF, zB, zC, zD, zE, zH, zJ, zK]
 have hl := h.1
 have f25' := f25 l ⟨by omega, fun x hx => by have := h.2 x hx; unfold Sm; omega⟩
 unfold ofW
 cases hr : rightW (lst l)
 ·rw [hr] at f25'
  simp +contextual -implicitDefEqProofs (maxSteps := 2000000) only [↓wP, wS, seval, f25']
  rfl
 rw [hr] at f25'
 rw [if_pos rfl]
 simp +contextual -implicitDefEqProofs (maxSteps := 2000000) only [↓wP, wS, seval, f25']
 refine WC_for (lst l).length 0 (fun (j : Nat) env σ n => env 1 = .int .i64 c ∧ env 11 = slV 4 wrV l ∧ ∃ v, env 5 = v ∧ Pl σ 0 n 4 v (oL ((((lst l).take j).filter fun w => w.c == c).map wrV))) (by omega) (by decide) (by decide) (fun _ _ => rfl) (fun _ _ _ => rfl) ?_ ?_ _ _ _ rfl rfl ?_
 ·intro j env σ n hj h1 h2 ⟨h0, h3, v, h4, h5⟩
  simp only [vl_tmp] at h2
  have hx : (lst l)[j]? = some (lst l)[j] := List.getElem?_eq_getElem hj
  have ht : (lst l).take (j + 1) = (lst l).take j ++ [(lst l)[j]] := (List.take_append_getElem hj).symm
  generalize (lst l)[j] = x at *
  have hlen : ((((lst l).take j).filter fun w => w.c == c).map wrV).length ≤ j := by
   rw [List.length_map]
   have := List.length_filter_le (fun w : Wr => w.c == c) ((lst l).take j)
   rw [List.length_take] at this
   omega
  have hfs : ((lst l).take (j + 1)).filter (fun w => w.c == c) = ((lst l).take j).filter (fun w => w.c == c) ++ if (x.c == c) = true then [x] else [] := by
   rw [ht, List.filter_append]
   congr 1
   simp only [List.filter_cons, List.filter_nil]
  have hsp := spl h5
  have hc := h5.cells
  obtain ⟨σ1, hσ1⟩ : ∃ σ1, σ1 = upd (upd σ n (some (.row 4 [.agg [.int .i64 0, .int .u64 0, .bool false, .nilS]]))) n (some (.row 4 [.agg [.int .i64 x.c, .int .u64 x.id, .bool x.g, slV 1 i32V x.v]])) := ⟨_, rfl⟩
  have so : ∀ i, i < n → σ1 i = σ i := fun i hi => by rw [hσ1, upd_ne (by omega), upd_ne (by omega)]
  have sn : σ1 n = some (.row 4 [.agg [.int .i64 x.c, .int .u64 x.id, .bool x.g, slV 1 i32V x.v]]) := by rw [hσ1, upd_self]
  cases hk : (x.c == c)
  ·rw [hk] at hfs
   simp only [Bool.false_eq_true, if_false, List.append_nil] at hfs
   simp +contextual -implicitDefEqProofs (maxSteps := 2000000) only [↓wP, wS, seval, h1, h2, h0, h3, h4, hx, wrV_eq, ← hσ1, sn, hk]
   rw [hfs]
   exact ⟨_, rfl, h5.loc (fun i a b => so i b) (by omega)⟩
  ·rw [hk] at hfs
   simp only [if_true] at hfs
   simp +contextual -implicitDefEqProofs (maxSteps := 2000000) only [↓wP, wS, seval, h1, h2, h0, h3, h4, hx, wrV_eq, ← hσ1, sn, hk]
   refine stepW_app1 (m := 0) (n0 := n) (σ0 := σ) h5 (fun i g1 g2 => ?_) (by omega) (by omega) (Nat.zero_le _) ?_ (fun _ σ2 g1 g2 => ?_)
   ·rw [upd_ne (by omega), so i g2]
   ·rw [lst_oL]; unfold LIM; omega
   ·rw [lst_oL] at g1 ⊢
    simp +contextual -implicitDefEqProofs (maxSteps := 2000000) only [↓wP, wS, seval, h1, h2, h0, h3, hc, hsp]
    refine ⟨_, rfl, ?_⟩
    rw [hfs, List.map_append]
    have e2 : oL ((((lst l).take j).filter fun w => w.c == c).map wrV ++ [x].map wrV) = some ((((lst l).take j).filter fun w => w.c == c).map wrV ++ [wrV x]) := by
     cases ((lst l).take j).filter fun w => w.c == c <;> rfl
    rw [e2]
    exact g1
 ·intro env σ n ⟨h0, h3, v, h4, h5⟩ h1 h2
  rw [List.take_length] at h5
  have hf := h5.frz (by rw [lst_oL]; exact wr_fz.1) (by rw [lst_oL]; exact wr_fz.2)
  simp +contextual -implicitDefEqProofs (maxSteps := 2000000) only [↓wP, wS, seval, h4]
  rw [hf, slV_oL]
 ·simp +contextual -implicitDefEqProofs (maxSteps := 2000000) only [↓wP, wS, seval]
  simp [oL, Pl]
def f21 (l : Option (List Wr)) (c : Int) (h : FitW (lst l)) := callE_tr (by decide) (r21 l c h) (by simp [Tr, Tr_slV]) (Nw_slV _ _ _ _)
def bV (b : Bool) : V := .bool b
def Own (σ : Sto) (pr pm pw mid : Nat) (o : Option (List Rw)) (w : Option (List Wr)) : Prop :=
 σ pr = some (.row 1 [slV 2 rwV o]) ∧ σ pm = some (.row 1 [.mp mid]) ∧ σ pw = some (.row 1 [slV 4 wrV w]) ∧ ∃ Lm clk, MOk Lm clk ∧ σ mid = some (.map (ens uV bV Lm) clk) ∧ ∀ id, (vw Lm id).getD false = ownB (lst w) id
theorem ownB_snoc (W : List Wr) (w : Wr) (id : Int) : ownB (W ++ [w]) id = (ownB W id || (w.id == id)) := by simp [ownB]
theorem raw39 (w : Option (List Wr)) (o : Option (List Rw)) (σ : Sto) (n : Nat) (hw : (lst w).length ≤ 1000000) {Q : V → Sto → Nat → Prop}
 (hQ : ∀ σ' n', n + 4 ≤ n' → (∀ i, i < n → σ' i = σ i) → Own σ' (n + 1) (n + 3) n (n + 2) o w → Q (.fn 61 [.ptr (n + 1) 1 0 0, .ptr (n + 3) 1 0 0, .ptr n 1 0 0]) σ' n') :
 run T (.raw 39 [slV 4 wrV w, slV 2 rwV o] σ n 0) (memQ Q) := by
 refine run_rawE (fn := g39) rfl rfl ?_
 simp only [g39, b39, zO, zN, zM, zL, zG, zP, zQ, zI, zA, zT, zF, zB, zC, zD, zE, zH, zJ, zK]
 have a1 : (n = n + 1) = False := by simp
 have a2 : (n = n + 2) = False := by simp
 have a3 : (n = n + 3) = False := by simp
 simp +contextual -implicitDefEqProofs (maxSteps := 2000000) only [↓wP, wS, seval, a1, a2, a3]
 refine WC_for (lst w).length 0 (fun (j : Nat) env σ' n' => env 2 = .ptr n 1 0 0 ∧ env 3 = .ptr (n + 1) 1 0 0 ∧ env 5 = .ptr (n + 3) 1 0 0 ∧ env 9 = slV 4 wrV w ∧ n + 4 ≤ n' ∧ (∀ i, i < n → σ' i = σ i) ∧
  σ' (n + 1) = some (.row 1 [slV 2 rwV o]) ∧ σ' (n + 3) = some (.row 1 [.mp (n + 2)]) ∧ σ' n = some (.row 1 [slV 4 wrV w]) ∧ ∃ Lm clk, MOk Lm clk ∧ σ' (n + 2) = some (.map (ens uV bV Lm) clk) ∧ ∀ id, (vw Lm id).getD false = ownB ((lst w).take j) id) (by omega) (by decide) (by decide) (fun _ _ => rfl) (fun _ _ _ => rfl) ?_ ?_ _ _ _ rfl rfl ?_
 ·intro j env σ' n' hj h1 h2 ⟨g1, g2, g3, g4, g5, g6, g7, g8, g9, Lm, clk, m1, m2, m3⟩
  simp only [vl_tmp] at h2
  have hx : (lst w)[j]? = some (lst w)[j] := List.getElem?_eq_getElem hj
  have hos := ownB_snoc ((lst w).take j) (lst w)[j]
  rw [List.take_append_getElem hj] at hos
  generalize (lst w)[j] = x at *
  obtain ⟨σ1, hσ1⟩ : ∃ σ1, σ1 = upd (upd σ' n' (some (.row 4 [.agg [.int .i64 0, .int .u64 0, .bool false, .nilS]]))) n' (some (.row 4 [.agg [.int .i64 x.c, .int .u64 x.id, .bool x.g, slV 1 i32V x.v]])) := ⟨_, rfl⟩
  have so : ∀ i, i < n' → σ1 i = σ' i := fun i hi => by rw [hσ1, upd_ne (by omega), upd_ne (by omega)]
  have sn : σ1 n' = some (.row 4 [.agg [.int .i64 x.c, .int .u64 x.id, .bool x.g, slV 1 i32V x.v]]) := by rw [hσ1, upd_self]
  have s3 : σ1 (n + 3) = some (.row 1 [.mp (n + 2)]) := by rw [so _ (by omega)]; exact g8
  have s2 : σ1 (n + 2) = some (.map (ens uV bV Lm) clk) := by rw [so _ (by omega)]; exact m2
  have pu := mupd_ens (ke := uV) (ve := bV) (lk := 0) keyU m1 s2 (Nat.zero_le _) x.id true (n' + 1)
  simp only [uV, bV] at pu
  simp +contextual -implicitDefEqProofs (maxSteps := 2000000) only [↓wP, wS, seval, h1, h2, g1, g2, g3, g4, hx, wrV_eq, ← hσ1, sn, s3, pu]
  have hx1 : ∀ i, i < n → (if i = n + 2 then some (Ob.map (ens uV bV (mput Lm clk x.id true).1) (mput Lm clk x.id true).2) else σ1 i) = σ i := fun i hi => by
   have : i ≠ n + 2 := by omega
   rw [if_neg this, so i (by omega)]; exact g6 i hi
  have hx2 : σ1 (n + 1) = some (.row 1 [slV 2 rwV o]) := by rw [so _ (by omega)]; exact g7
  have hx3 : σ1 n = some (.row 1 [slV 4 wrV w]) := by rw [so _ (by omega)]; exact g9
  have hx4 : ∀ id, (vw (mput Lm clk x.id true).1 id).getD false = ownB ((lst w).take (j + 1)) id := fun id => by
   rw [vw_mput, hos]
   by_cases e : id = x.id
   ·rw [if_pos e]; simp [e]
   ·rw [if_neg e, m3]
    have : (x.id == id) = false := by simp; exact fun h => e h.symm
    rw [this, Bool.or_false]
  exact ⟨by omega, hx1, hx2, hx3, _, _, mput_ok m1 _ _, rfl, hx4⟩
 ·intro env σ' n' ⟨g1, g2, g3, g4, g5, g6, g7, g8, g9, Lm, clk, m1, m2, m3⟩ h1 h2
  rw [List.take_length] at m3
  simp +contextual -implicitDefEqProofs (maxSteps := 2000000) only [↓wP, wS, seval, g1, g2, g3]
  exact hQ σ' n' g5 g6 ⟨g7, g8, g9, Lm, clk, m1, m2, m3⟩
 ·simp +contextual -implicitDefEqProofs (maxSteps := 2000000) only [↓wP, wS, seval, a1, a2, a3]
  refine ⟨fun i hi => ?_, [], 0, MOk.nil, rfl, fun id => rfl⟩
  have c1 : i ≠ n + 3 := by omega
  have c2 : i ≠ n + 2 := by omega
  have c3 : i ≠ n + 1 := by omega
  have c4 : i ≠ n := by omega
  simp only [c1, c2, c3, c4, if_false]
theorem seen102 (o : Option (List Rw)) (w : Option (List Wr)) (J : List Rw → Sto → Nat → Prop) (lid pr pm pw mid : Nat) (hl : (lst o).length ≤ 1000000) (hlw : (lst w).length ≤ 1000000)
 (hc : ∀ pre σ n, J pre σ n → Own σ pr pm pw mid o w ∧ pr < n ∧ pm < n ∧ pw < n ∧ mid < n)
 (hal : ∀ pre σ n σ', J pre σ n → (∀ i, i ≠ n → σ' i = σ i) → J pre σ' (n + 1))
 (hy : ∀ pre σ n r, pre.length < (ovD (lst o) (lst w)).length → (r ∈ lst o ∨ ∃ x ∈ lst w, x.g = false ∧ r = ⟨x.id, x.v⟩) → J pre σ n → yieldW (run T) lid [rwV r] σ n 0 (fun y σ' n' => y = .bool true ∧ J (pre ++ [r]) σ' n'))
 (σ0 : Sto) (n0 : Nat) (h0 : J [] σ0 n0) : run T (.raw 61 [.yld lid, .ptr pr 1 0 0, .ptr pm 1 0 0, .ptr pw 1 0 0] σ0 n0 0) (memQ fun _ σ' n' => J (ovD (lst o) (lst w)) σ' n') := by
 refine run_rawE (fn := g61) rfl rfl ?_
 obtain ⟨⟨c1, c2, c3, -⟩, -⟩ := hc _ _ _ h0
 simp only [g61, b61, zO, zN, zM, zL, zG, zP, zQ, zI, zA, zT, zF, zB, zC, zD, zE, zH, zJ, zK]
 obtain ⟨A, hA⟩ : ∃ A : Nat → List Rw, A = fun j => ((lst o).take j).filter fun r => !ownB (lst w) r.id := ⟨_, rfl⟩
 obtain ⟨B, hB⟩ : ∃ B : Nat → List Rw, B = fun j => (((lst w).take j).filter fun x => !x.g).map fun x => ⟨x.id, x.v⟩ := ⟨_, rfl⟩
 have hD : ovD (lst o) (lst w) = A (lst o).length ++ B (lst w).length := by rw [hA, hB]; simp only [List.take_length]; rfl
 have hA0 : A 0 = [] := by rw [hA]; rfl
 have hB0 : B 0 = [] := by rw [hB]; rfl
 have hAs : ∀ j (h : j < (lst o).length), A (j + 1) = A j ++ if ownB (lst w) (lst o)[j].id = true then [] else [(lst o)[j]] := fun j h => by
  rw [hA]; simp only []
  rw [← List.take_append_getElem h, List.filter_append]
  congr 1
  cases hq : ownB (lst w) (lst o)[j].id <;> simp [hq]
 have hBs : ∀ j (h : j < (lst w).length), B (j + 1) = B j ++ if (lst w)[j].g = true then [] else [⟨(lst w)[j].id, (lst w)[j].v⟩] := fun j h => by
  rw [hB]; simp only []
  rw [← List.take_append_getElem h, List.filter_append, List.map_append]
  congr 1
  cases hq : (lst w)[j].g <;> simp [hq]
 have hAl : ∀ j, (A j).length ≤ (A (lst o).length).length := fun j => by
  rw [hA]; simp only [List.take_length]
  exact (((List.take_sublist j (lst o)).filter _).length_le)
 have hBl : ∀ j, (B j).length ≤ (B (lst w).length).length := fun j => by
  rw [hB]; simp only [List.take_length, List.length_map]
  exact (((List.take_sublist j (lst w)).filter _).length_le)
 simp +contextual -implicitDefEqProofs (maxSteps := 2000000) only [↓wP, wS, seval, c1]
 refine WC_for (lst o).length 0 (fun (j : Nat) env σ n => env 0 = .yld lid ∧ env 2 = .ptr pm 1 0 0 ∧ env 3 = .ptr pw 1 0 0 ∧ env 9 = slV 2 rwV o ∧ J (A j) σ n) (by omega) (by decide) (by decide) (fun _ _ => rfl) (fun _ _ _ => rfl) ?_ ?_ _ _ _ rfl rfl ?_
 ·intro j env σ n hj h1 h2 ⟨g1, g2, g3, g4, g5⟩
  simp only [vl_tmp] at h2
  have hx : (lst o)[j]? = some (lst o)[j] := List.getElem?_eq_getElem hj
  have hst := hAs j hj
  have hlen := hAl (j + 1)
  have hmem := List.getElem_mem hj
  obtain ⟨x, hxx⟩ : ∃ x, x = (lst o)[j] := ⟨_, rfl⟩
  rw [← hxx] at hx hst hmem
  obtain ⟨σ1, hσ1⟩ : ∃ σ1, σ1 = upd (upd σ n (some (.row 2 [.agg [.int .u64 0, .nilS]]))) n (some (.row 2 [.agg [.int .u64 x.id, slV 1 i32V x.v]])) := ⟨_, rfl⟩
  have sn : σ1 n = some (.row 2 [.agg [.int .u64 x.id, slV 1 i32V x.v]]) := by rw [hσ1, upd_self]
  have hJ1 := hal _ σ n σ1 g5 (fun i hi => by rw [hσ1, upd_ne hi, upd_ne hi])
  obtain ⟨⟨d1, d2, d3, Lm, clk, m1, m2, m3⟩, e1, e2, e3, e4⟩ := hc _ _ _ hJ1
  have q0 : (pm = n) = False := by
   simp only [eq_iff_iff, iff_false]
   intro h; rw [h, sn] at d2; cases d2
  have q1 : (mid = n) = False := by
   simp only [eq_iff_iff, iff_false]
   intro h; rw [h, sn] at m2; cases m2
  have hmg : mgetE false (.one .int) (.bool false) (some (ens uV bV Lm)) (.int .u64 x.id) = some (.bool (ownB (lst w) x.id)) := by
   have := mget_ens (ve := bV) keyU false (.bool false) x.id Lm
   simp only [uV] at this
   rw [this, ← m3 x.id]
   cases vw Lm x.id <;> rfl
  cases hq : ownB (lst w) x.id
  ·rw [hq] at hmg hst
   simp only [Bool.false_eq_true, if_false] at hst
   have hyx := hy (A j) σ1 (n + 1) x (by rw [hD, List.length_append]; rw [hst, List.length_append] at hlen; simp at hlen; omega) (.inl hmem) hJ1
   rw [rwV_eq] at hyx
   simp +contextual -implicitDefEqProofs (maxSteps := 2000000) only [↓wP, wS, seval, h1, h2, g1, g2, g3, g4, hx, rwV_eq, ← hσ1, sn, d2, m2, hmg]
   refine stepW_yld (yieldW_mono (fun _ _ x => x) run_mono (fun y σ' n' ⟨hy1, hy2⟩ => ?_) hyx)
   subst hy1
   simp +contextual -implicitDefEqProofs (maxSteps := 2000000) only [↓wP, wS, seval, h1, h2, g1, g2, g3, g4]
   rw [hst]
   exact hy2
  ·rw [hq] at hmg hst
   simp only [if_true, List.append_nil] at hst
   simp +contextual -implicitDefEqProofs (maxSteps := 2000000) only [↓wP, wS, seval, h1, h2, g1, g2, g3, g4, hx, rwV_eq, ← hσ1, sn, d2, m2, hmg]
   rw [hst]
   exact hJ1
 ·intro env σ n ⟨g1, g2, g3, g4, g5⟩ h1 h2
  obtain ⟨⟨d1, d2, d3, -⟩, -⟩ := hc _ _ _ g5
  simp +contextual -implicitDefEqProofs (maxSteps := 2000000) only [↓wP, wS, seval, g1, g3, d3]
  refine WC_for (lst w).length 0 (fun (j : Nat) env σ n => env 0 = .yld lid ∧ env 27 = slV 4 wrV w ∧ J (A (lst o).length ++ B j) σ n) (by omega) (by decide) (by decide) (fun _ _ => rfl) (fun _ _ _ => rfl) ?_ ?_ _ _ _ rfl rfl ?_
  ·clear g1 g2 g3 g4 g5 h1 h2 d1 d2 d3
   intro j env σ n hj h1 h2 ⟨g1, g4, g5⟩
   simp only [vl_tmp] at h2
   have hx : (lst w)[j]? = some (lst w)[j] := List.getElem?_eq_getElem hj
   have hst := hBs j hj
   have hlen := hBl (j + 1)
   have hmem := List.getElem_mem hj
   obtain ⟨x, hxx⟩ : ∃ x, x = (lst w)[j] := ⟨_, rfl⟩
   rw [← hxx] at hx hst hmem
   obtain ⟨σ1, hσ1⟩ : ∃ σ1, σ1 = upd (upd σ n (some (.row 4 [.agg [.int .i64 0, .int .u64 0, .bool false, .nilS]]))) n (some (.row 4 [.agg [.int .i64 x.c, .int .u64 x.id, .bool x.g, slV 1 i32V x.v]])) := ⟨_, rfl⟩
   have sn : σ1 n = some (.row 4 [.agg [.int .i64 x.c, .int .u64 x.id, .bool x.g, slV 1 i32V x.v]]) := by rw [hσ1, upd_self]
   have hJ1 := hal _ σ n σ1 g5 (fun i hi => by rw [hσ1, upd_ne hi, upd_ne hi])
   cases hq : x.g
   all_goals rw [hq] at hσ1 sn hst
   ·simp only [Bool.false_eq_true, if_false] at hst
    have hyx := hy (A (lst o).length ++ B j) σ1 (n + 1) ⟨x.id, x.v⟩ (by rw [hD, List.length_append, List.length_append]; rw [hst, List.length_append] at hlen; simp at hlen; omega) (.inr ⟨x, hmem, hq, rfl⟩) hJ1
    rw [rwV_eq, List.append_assoc, ← hst] at hyx
    simp +contextual -implicitDefEqProofs (maxSteps := 2000000) only [↓wP, wS, seval, h1, h2, g1, g4, hx, wrV_eq, hq, ← hσ1, sn]
    refine stepW_yld (yieldW_mono (fun _ _ x => x) run_mono (fun y σ' n' ⟨hy1, hy2⟩ => ?_) hyx)
    subst hy1
    simp +contextual -implicitDefEqProofs (maxSteps := 2000000) only [↓wP, wS, seval, h1, h2, g1, g4]
    exact hy2
   ·simp only [if_true, List.append_nil] at hst
    simp +contextual -implicitDefEqProofs (maxSteps := 2000000) only [↓wP, wS, seval, h1, h2, g1, g4, hx, wrV_eq, hq, ← hσ1, sn]
    rw [hst]
    exact hJ1
  ·intro env σ n ⟨g1, g4, g5⟩ h1 h2
   simp +contextual -implicitDefEqProofs (maxSteps := 2000000) only [↓wP, wS, seval]
   rw [hD]
   exact g5
  ·simp +contextual -implicitDefEqProofs (maxSteps := 2000000) only [↓wP, wS, seval, g1]
   rw [hB0, List.append_nil]
   exact g5
 ·rw [hA0]
  exact ⟨rfl, rfl, rfl, rfl, h0⟩
end Go.Q.SU
end

section
/- Rows whose vectors stand in the store. -/
namespace Go.Q.SU
open Go.Q Go.Sort
structure Fr where
 σ : Sto
 i : Nat
structure Rq (fr : Fr) where
 id : Int
 xs : List Int
 k : Nat
 n : Nat
 hn : xs.length = n
 hk : k < fr.i
 hs : fr.σ k = some (.row 1 (xs.map i32V))
def ahQ {fr : Fr} (a b : Rq fr) : Bool := decide (a.id < b.id)
theorem cmpQ_lt {fr : Fr} (a b : Rq fr) : decide (cmpU a.id b.id < 0) = ahQ a b := by
 unfold cmpU ahQ
 by_cases h1 : a.id < b.id
 ·simp [h1]
 ·by_cases h2 : b.id < a.id <;> simp [h1, h2]
theorem swoQ {fr : Fr} : Go.Sort.SWO (ahQ (fr := fr)) where
 irrefl := fun x => by simp [ahQ]
 trans := fun x y z h1 h2 => by simp [ahQ] at *; omega
 ntrans := fun x y z h1 h2 => by simp [ahQ] at *; omega
def rqV {fr : Fr} (x : Rq fr) : V := .agg [.int .u64 x.id, .ref x.k 0 x.n 1]
def toR {fr : Fr} (x : Rq fr) : Rw := ⟨x.id, some x.xs⟩
def rq' {fr : Fr} (d : Array (Rq fr)) : List V := d.toList.map rqV
theorem rq_len {fr : Fr} (d : Array (Rq fr)) : (rq' d).length = d.size := by simp [rq']
theorem rq_at {fr : Fr} [Inhabited (Rq fr)] {d : Array (Rq fr)} {i : Nat} (h : i < d.size) : (rq' d)[i]? = some (.agg [.int .u64 (d[i]!).id, .ref (d[i]!).k 0 (d[i]!).n 1]) := by
 unfold rq'
 rw [List.getElem?_map, List.getElem?_eq_getElem (by simpa using h), Option.map_some]
 simp [rqV, h]
def Hs (fr : Fr) (σ : Sto) (id : Nat) (d : Array (Rq fr)) : Prop := σ id = some (.row 2 (rq' d)) ∧ id = fr.i ∧ ∀ i, i < id → σ i = fr.σ i
abbrev CmpQ (fr : Fr) (F : Nat) : Prop := CmpF F ∧ ∀ (x y : Rq fr) (σ : Sto), (∀ i, i < fr.i → σ i = fr.σ i) → ∀ (fs : Bool) (n lk : Nat), callE T fs F [.agg [.int .u64 x.id, .ref x.k 0 x.n 1], .agg [.int .u64 y.id, .ref y.k 0 y.n 1]] σ n lk = some (.int .i64 (cmpU x.id y.id), σ, n)
theorem CmpQ.at {fr : Fr} {F : Nat} (h : CmpQ fr F) {σ : Sto} {id : Nat} {d : Array (Rq fr)} (hs : Hs fr σ id d) (x y : Rq fr) (fs : Bool) (n lk : Nat) :
 callE T fs F [.agg [.int .u64 x.id, .ref x.k 0 x.n 1], .agg [.int .u64 y.id, .ref y.k 0 y.n 1]] σ n lk = some (.int .i64 (cmpU x.id y.id), σ, n) :=
 h.2 x y σ (by rw [← hs.2.1]; exact hs.2.2) fs n lk
theorem Rq.frz {fr : Fr} (x : Rq fr) {σ : Sto} (h : ∀ i, i < fr.i → σ i = fr.σ i) (k : Nat) : Go.Q.frz σ (k + 2) (.ref x.k 0 x.n 1) = some (slV 1 i32V (some x.xs)) := by
 have := frz_vx (σ := σ) (x := (⟨0, 0, false, some x.xs⟩, some x.k)) ⟨rfl, by rw [h x.k x.hk]; exact x.hs⟩ k
 simp only [vx, lst_some, x.hn] at this
 exact this
theorem Rq.frzV {fr : Fr} (x : Rq fr) {σ : Sto} (h : ∀ i, i < fr.i → σ i = fr.σ i) (k : Nat) : Go.Q.frz σ (k + 3) (.agg [.int .u64 x.id, .ref x.k 0 x.n 1]) = some (rwV (toR x)) := by
 simp only [frz_agg, List.mapM_cons, List.mapM_nil, frz_int, x.frz h k]; rfl
theorem cmpQ42 (fr : Fr) : CmpQ fr 42 := ⟨cmp42, fun x y σ h fs n lk => by
 have m : [.agg [.int .u64 x.id, .ref x.k 0 x.n 1], .agg [.int .u64 y.id, .ref y.k 0 y.n 1]].mapM (Go.Q.frz σ 12) = some [rwV (toR x), rwV (toR y)] := by
  simp only [List.mapM_cons, List.mapM_nil, x.frzV h 9, y.frzV h 9]; rfl
 have := callE_flat (f := 42) (by decide) m (r42 x.id y.id (some x.xs) (some y.xs)) rfl fs n lk
 rw [this]; rfl⟩
end Go.Q.SU
end

section
/- Small sorts, a part turned round, patterns broken. -/
namespace Go.Q.SU
open Go.Q Go.Sort
variable {fr : Fr} [Inhabited (Rq fr)]
def At (σ σ0 : Sto) (id : Nat) (d : Array (Rq fr)) : Prop := Hs fr σ id d ∧ ∀ i, i ≠ id → σ i = σ0 i
theorem rw_set {d : Array (Rq fr)} {i : Nat} {x : Rq fr} : (rq' d).set i (.agg [.int .u64 x.id, .ref x.k 0 x.n 1]) = rq' (d.setIfInBounds i x) := by
 unfold rq'
 rw [Array.toList_setIfInBounds, List.map_set]
 rfl
theorem rw_set_at {d : Array (Rq fr)} {i j : Nat} {x : Rq fr} (hj : j < d.size) : ∃ (u : Int) (w m : Nat), ((rq' d).set i (.agg [.int .u64 x.id, .ref x.k 0 x.n 1]))[j]? = some (.agg [.int .u64 u, .ref w 0 m 1]) := by
 rw [rw_set, rq_at (by simpa using hj)]
 exact ⟨_, _, _, rfl⟩
theorem rw_swp (d : Array (Rq fr)) (i j : Nat) : ((rq' d).set i (.agg [.int .u64 (d[j]!).id, .ref (d[j]!).k 0 (d[j]!).n 1])).set j (.agg [.int .u64 (d[i]!).id, .ref (d[i]!).k 0 (d[i]!).n 1]) = rq' (swp d i j) := by
 rw [rw_set, rw_set]
 rfl
theorem At.swp {σ σ0 : Sto} {id : Nat} {d : Array (Rq fr)} (h : At σ σ0 id d) (i j : Nat) :
 At (upd (upd σ id (some (.row 2 ((rq' d).set i (.agg [.int .u64 (d[j]!).id, .ref (d[j]!).k 0 (d[j]!).n 1]))))) id
  (some (.row 2 (((rq' d).set i (.agg [.int .u64 (d[j]!).id, .ref (d[j]!).k 0 (d[j]!).n 1])).set j (.agg [.int .u64 (d[i]!).id, .ref (d[i]!).k 0 (d[i]!).n 1]))))) σ0 id (swp d i j) := by
 refine ⟨⟨?_, h.1.2.1, fun k hk => ?_⟩, fun k hk => ?_⟩
 ·simp only [upd, if_true, rw_swp]
 ·have hk' : k ≠ id := by omega
  simp only [upd, hk', if_false]; exact h.1.2.2 k hk
 ·simp only [upd, hk, if_false, h.2 k hk]
theorem At.refl {σ : Sto} {id : Nat} {d : Array (Rq fr)} (h : Hs fr σ id d) : At σ σ id d := ⟨h, fun _ _ => rfl⟩
theorem insIn_lt {lt : Rq fr → Rq fr → Bool} {a j : Nat} {d : Array (Rq fr)} (h : a < j + 1) (hl : lt d[j + 1]! d[j]! = true) : insInner lt a (j + 1) d = insInner lt a j (Go.Sort.swp d (j + 1) j) := by
 rw [insInner]; simp [h, hl]
theorem insIn_stop {lt : Rq fr → Rq fr → Bool} {a j : Nat} {d : Array (Rq fr)} (h : j ≤ a ∨ (0 < j ∧ lt d[j]! d[j - 1]! = false)) : insInner lt a j d = d := by
 cases j with
 | zero => rfl
 | succ j =>
   rw [insInner]
   rcases h with h | h
   ·have : ¬ a < j + 1 := by omega
    simp [this]
   ·simp only [Nat.add_sub_cancel] at h
    simp [h.2]
theorem raw71 (F : Nat) (hF : CmpQ fr F) (d : Array (Rq fr)) (a b id n : Nat) (σ : Sto) (hab : a ≤ b) (hb : b ≤ d.size) (hn : d.size < 1000000) (hσ : Hs fr σ id d) {Q : V → Sto → Nat → Prop}
 (hQ : ∀ σ', At σ' σ id (insertionSort ahQ d a b) → Q .undef σ' n) :
 run T (.raw 71 [.ref id 0 d.size 2, .int .i64 (a : Int), .int .i64 (b : Int), .fn F []] σ n 0) (memQ Q) := by
 refine run_rawE (fn := g71) rfl rfl ?_
 simp only [g71, b71, zO, zN, zM, zL, zG, zP, zQ, zI, zA, zT, zF, zB, zC, zD, zE, zH, zJ, zK]
 have w1 : IntKind.i64.wrap ((a : Int) + 1) = ((a + 1 : Nat) : Int) := by rw [wrap_i64] <;> omega
 generalize hsz : d.size = N at *
 simp +contextual -implicitDefEqProofs (maxSteps := 2000000) only [↓wP, wS, seval, w1]
 refine WC_loopI 0 (fun (s : Nat × Array (Rq fr)) env σ' n' => n' = n ∧ env 0 = .ref id 0 N 2 ∧ env 1 = .int .i64 (a : Int) ∧ env 2 = .int .i64 (b : Int) ∧ env 3 = .fn F [] ∧ env 8 = .int .i64 (s.1 : Int) ∧
  a < s.1 ∧ (s.1 ≤ b ∨ s.1 = a + 1) ∧ s.2.size = N ∧ At σ' σ id s.2 ∧ insOuter ahQ a b s.1 s.2 = insertionSort ahQ d a b) (fun s => b + 1 - s.1) ?_ (a + 1, d) _ _ _ ?_
 ·intro ⟨i, e⟩ env σ1 n1 ⟨h1, h2, h3, h4, h5, h6, h7, h8, h9, h10, h11⟩
  subst h1
  simp only at h6 h7 h8 h9 h10 h11
  by_cases hlt : i < b
  ·have w2 : IntKind.i64.wrap ((i : Int) + 1) = ((i + 1 : Nat) : Int) := by rw [wrap_i64] <;> omega
   have hlt' : (i : Int) < (b : Int) := by omega
   rw [insOuter, if_pos hlt] at h11
   simp +contextual -implicitDefEqProofs (maxSteps := 2000000) only [↓wP, wS, seval, h2, h3, h4, h5, h6, hlt']
   refine WC_loopI 0 (fun (s : Nat × Array (Rq fr)) env σ' n' => n' = n1 ∧ env 0 = .ref id 0 N 2 ∧ env 1 = .int .i64 (a : Int) ∧ env 2 = .int .i64 (b : Int) ∧ env 3 = .fn F [] ∧ env 8 = .int .i64 (i : Int) ∧ env 9 = .int .i64 (s.1 : Int) ∧
    s.1 ≤ i ∧ s.2.size = N ∧ At σ' σ id s.2 ∧ insInner ahQ a s.1 s.2 = insInner ahQ a i e) (fun s => s.1) ?_ (i, e) _ _ _ ?_
   ·clear h2 h3 h4 h5 h6 h10
    intro ⟨j, g⟩ env σ2 n2 ⟨k1, k2, k3, k4, k5, k6, k7, k8, k9, k10, k11⟩
    subst k1
    simp only at k7 k8 k9 k10 k11
    have hat := k10.1.1
    have hFq := hF.at k10.1
    by_cases hja : a < j
    ·obtain ⟨j, rfl⟩ : ∃ j', j = j' + 1 := ⟨j - 1, by omega⟩
     have hja' : (a : Int) < ((j + 1 : Nat) : Int) := by omega
     have w3 : IntKind.i64.wrap (((j + 1 : Nat) : Int) - 1) = (j : Int) := by rw [wrap_i64] <;> omega
     have x1 := rq_at (d := g) (i := j + 1) (by omega)
     have x2 := rq_at (d := g) (i := j) (by omega)
     have l1 : j + 1 < N := by omega
     have l2 : j < N := by omega
     by_cases hc : cmpU (g[j + 1]!).id (g[j]!).id < 0
     ·have hah : ahQ g[j + 1]! g[j]! = true := by rw [← cmpQ_lt]; simpa using hc
      obtain ⟨u, v, v', x3⟩ := rw_set_at (d := g) (i := j + 1) (j := j) (x := g[j]!) (by omega)
      simp +contextual -implicitDefEqProofs (maxSteps := 2000000) only [↓wP, wS, seval, k2, k3, k4, k5, k6, k7, hja', w3, hat, l1, l2, x1, x2, x3, hFq, hc]
      refine ⟨(j, swp g (j + 1) j), by dsimp only; omega, rfl, by dsimp only; omega, by rw [swp_size, k9], k10.swp _ _, ?_⟩
      dsimp only
      rw [← insIn_lt hja hah]
      exact k11
     ·have hah : ahQ g[j + 1]! g[j]! = false := by rw [← cmpQ_lt]; simpa using hc
      simp +contextual -implicitDefEqProofs (maxSteps := 2000000) only [↓wP, wS, seval, k2, k3, k4, k5, k6, k7, hja', w3, hat, l1, l2, x1, x2, hFq, hc, w2]
      refine ⟨(i + 1, g), by dsimp only; omega, rfl, by dsimp only; omega, by dsimp only; omega, k9, k10, ?_⟩
      dsimp only
      rw [insIn_stop (.inr ⟨by omega, hah⟩)] at k11
      rw [k11]
      exact h11
    ·have hja' : ¬ (a : Int) < (j : Int) := by omega
     simp +contextual -implicitDefEqProofs (maxSteps := 2000000) only [↓wP, wS, seval, k2, k3, k4, k5, k6, k7, hja', w2]
     refine ⟨(i + 1, g), by dsimp only; omega, rfl, by dsimp only; omega, by dsimp only; omega, k9, k10, ?_⟩
     dsimp only
     rw [insIn_stop (.inl (by omega))] at k11
     rw [k11]
     exact h11
   ·simp +contextual -implicitDefEqProofs (maxSteps := 2000000) only [↓wP, wS, seval, h2, h3, h4, h5, h6]
    exact ⟨h9, h10⟩
  ·have hlt' : ¬ (i : Int) < (b : Int) := by omega
   rw [insOuter, if_neg hlt] at h11
   simp +contextual -implicitDefEqProofs (maxSteps := 2000000) only [↓wP, wS, seval, h2, h3, h4, h5, h6, hlt']
   refine hQ _ ?_
   rw [← h11]
   exact h10
 ·simp +contextual -implicitDefEqProofs (maxSteps := 2000000) only [↓wP, wS, seval]
  exact ⟨by omega, .inr trivial, hsz, At.refl hσ, rfl⟩
theorem raw75 (F : Nat) (hF : CmpQ fr F) (d : Array (Rq fr)) (a b id n : Nat) (σ : Sto) (hab : a < b) (hb : b ≤ d.size) (hn : d.size < 1000000) (hσ : Hs fr σ id d) {Q : V → Sto → Nat → Prop}
 (hQ : ∀ σ' d', At σ' σ id d' → PermIn a b d d' → Q .undef σ' n) :
 run T (.raw 75 [.ref id 0 d.size 2, .int .i64 (a : Int), .int .i64 (b : Int), .fn F []] σ n 0) (memQ Q) := by
 refine run_rawE (fn := g75) rfl rfl ?_
 simp only [g75, b75, zO, zN, zM, zL, zG, zP, zQ, zI, zA, zT, zF, zB, zC, zD, zE, zH, zJ, zK]
 have w1 : IntKind.i64.wrap ((b : Int) - 1) = ((b - 1 : Nat) : Int) := by rw [wrap_i64] <;> omega
 have hp : ∀ d' : Array (Rq fr), PermIn a b d d' → d'.size = d.size := fun d' h => h.1
 generalize hsz : d.size = N at *
 simp +contextual -implicitDefEqProofs (maxSteps := 2000000) only [↓wP, wS, seval, w1]
 refine WC_loopI 0 (fun (s : (Nat × Nat) × Array (Rq fr)) env σ' n' => n' = n ∧ env 0 = .ref id 0 N 2 ∧ env 8 = .int .i64 (s.1.1 : Int) ∧ env 9 = .int .i64 (s.1.2 : Int) ∧
  a ≤ s.1.1 ∧ s.1.2 < b ∧ At σ' σ id s.2 ∧ PermIn a b d s.2) (fun s => s.1.2) ?_ ((a, b - 1), d) _ _ _ ?_
 ·intro ⟨⟨i, j⟩, e⟩ env σ1 n1 ⟨h1, h2, h3, h4, h5, h6, h7, h8⟩
  subst h1
  simp only at h3 h4 h5 h6 h7 h8
  by_cases hlt : i < j
  ·obtain ⟨j, rfl⟩ : ∃ j', j = j' + 1 := ⟨j - 1, by omega⟩
   have hlt' : (i : Int) < ((j + 1 : Nat) : Int) := by omega
   have w2 : IntKind.i64.wrap ((i : Int) + 1) = ((i + 1 : Nat) : Int) := by rw [wrap_i64] <;> omega
   have w3 : IntKind.i64.wrap (((j + 1 : Nat) : Int) - 1) = (j : Int) := by rw [wrap_i64] <;> omega
   have he := hp e h8
   have x1 := rq_at (d := e) (i := i) (by omega)
   have x2 := rq_at (d := e) (i := j + 1) (by omega)
   obtain ⟨u, v, v', x3⟩ := rw_set_at (d := e) (i := i) (j := j + 1) (x := e[j + 1]!) (by omega)
   have l1 : i < N := by omega
   have l2 : j + 1 < N := by omega
   have hat := h7.1.1
   have hFq := hF.at h7.1
   simp +contextual -implicitDefEqProofs (maxSteps := 2000000) only [↓wP, wS, seval, h2, h3, h4, hlt', w2, w3, x1, x2, x3, l1, l2, hat]
   refine ⟨((i + 1, j), swp e i (j + 1)), by dsimp only; omega, rfl, rfl, by dsimp only; omega, by dsimp only; omega, h7.swp _ _, ?_⟩
   exact permIn_trans _ _ _ _ _ h8 (swp_permIn e a b i (j + 1) h5 (by omega) (by omega) h6 (by omega))
  ·have hlt' : ¬ (i : Int) < (j : Int) := by omega
   simp +contextual -implicitDefEqProofs (maxSteps := 2000000) only [↓wP, wS, seval, h2, h3, h4, hlt']
   exact hQ _ _ h7 h8
 ·simp +contextual -implicitDefEqProofs (maxSteps := 2000000) only [↓wP, wS, seval]
  exact ⟨by omega, At.refl hσ, permIn_refl _ _ _⟩
theorem bin_shl (k : IntKind) (x : Int) (m : Nat) : ∃ y, binV .shl (.int k x) (.int .u64 (m : Int)) = some (.int k y) := by
 refine ⟨k.wrap (x * 2 ^ (min (m : Int).toNat k.bits)), ?_⟩
 have : ¬ ((m : Int) < 0) := by omega
 simp [binV, pureV, Go.binOp, Op.shift, this]
 rfl
theorem bin_shr (k : IntKind) (x : Int) (m : Nat) : ∃ y, binV .shr (.int k x) (.int .u64 (m : Int)) = some (.int k y) := by
 refine ⟨x.fdiv (2 ^ (min (m : Int).toNat k.bits)), ?_⟩
 have : ¬ ((m : Int) < 0) := by omega
 simp [binV, pureV, Go.binOp, Op.shift, this]
 rfl
theorem bin_and64 (x : Int) (m : Nat) (hm : m < 18446744073709551616) : ∃ y : Nat, y ≤ m ∧ binV .and (.int .u64 x) (.int .u64 (m : Int)) = some (.int .u64 (y : Int)) := by
 have hle : (BitVec.ofInt 64 x &&& BitVec.ofInt 64 (m : Int)).toNat ≤ m := by
  rw [BitVec.toNat_and]
  refine Nat.le_trans Nat.and_le_right ?_
  simp
  exact Nat.mod_le _ _
 refine ⟨(BitVec.ofInt 64 x &&& BitVec.ofInt 64 (m : Int)).toNat, hle, ?_⟩
 have hw : IntKind.u64.wrap ((BitVec.ofInt 64 x &&& BitVec.ofInt 64 (m : Int)).toNat : Int) = ((BitVec.ofInt 64 x &&& BitVec.ofInt 64 (m : Int)).toNat : Int) := by rw [wrap_u64] <;> omega
 have := bin_and .u64 x (m : Int)
 rw [this]
 congr 2
theorem raw86 (F : Nat) (hF : CmpQ fr F) (r : Int) (sid n : Nat) (σ : Sto) (hs : σ sid = some (.row 1 [.int .u64 r])) {Q : V → Sto → Nat → Prop}
 (hQ : ∀ (r' : Int) (σ' : Sto), σ' sid = some (.row 1 [.int .u64 r']) → (∀ i, i ≠ sid → σ' i = σ i) → Q (.int .u64 r') σ' n) :
 run T (.raw 86 [.ptr sid 1 0 0] σ n 0) (memQ Q) := by
 refine run_rawE (fn := g86) rfl rfl ?_
 simp only [g86, b86, zO, zN, zM, zL, zG, zP, zQ, zI, zA, zT, zF, zB, zC, zD, zE, zH, zJ, zK]
 obtain ⟨y1, e1⟩ := bin_shl .u64 r 13
 have x1 := bin_xor .u64 r y1
 generalize IntKind.u64.wrap ↑(BitVec.ofInt IntKind.u64.bits r ^^^ BitVec.ofInt IntKind.u64.bits y1).toNat = r1 at x1
 obtain ⟨y2, e2⟩ := bin_shr .u64 r1 7
 have x2 := bin_xor .u64 r1 y2
 generalize IntKind.u64.wrap ↑(BitVec.ofInt IntKind.u64.bits r1 ^^^ BitVec.ofInt IntKind.u64.bits y2).toNat = r2 at x2
 obtain ⟨y3, e3⟩ := bin_shl .u64 r2 17
 have x3 := bin_xor .u64 r2 y3
 generalize IntKind.u64.wrap ↑(BitVec.ofInt IntKind.u64.bits r2 ^^^ BitVec.ofInt IntKind.u64.bits y3).toNat = r3 at x3
 simp only [show ((13 : Nat) : Int) = 13 from rfl, show ((7 : Nat) : Int) = 7 from rfl, show ((17 : Nat) : Int) = 17 from rfl] at e1 e2 e3
 simp +contextual -implicitDefEqProofs (maxSteps := 2000000) only [↓wP, wS, seval, hs, e1, x1, e2, x2, e3, x3]
 exact hQ _ _ (by simp [upd]) (fun i hi => by simp [upd, hi])
def chk85 (m : Nat) : Bool := match exJob T 60 (.pure 85 [.int .i64 (m : Int)]) with
 | some (.val (.int .u64 M)) => decide (0 < M ∧ M ≤ 2 * (m : Int))
 | _ => false
theorem all85 : (List.range 130).all (fun m => decide (m < 8) || chk85 m) = true := by decide +kernel
theorem r85 (m : Nat) (h8 : 8 ≤ m) (h60 : m < 130) : ∃ M : Nat, 0 < M ∧ M ≤ 2 * m ∧ res T 85 [.int .i64 (m : Int)] = some (.int .u64 (M : Int)) := by
 have h := List.all_eq_true.1 all85 m (List.mem_range.2 h60)
 have h8' : ¬ m < 8 := by omega
 simp only [h8', decide_false, Bool.false_or] at h
 unfold chk85 at h
 split at h
 ·rename_i M hM
  simp only [decide_eq_true_eq] at h
  refine ⟨M.toNat, by omega, by omega, ?_⟩
  rw [show ((M.toNat : Nat) : Int) = M by omega]
  exact run_res (exJob_sound 60 _ _ hM)
 ·cases h
theorem raw73 (F : Nat) (hF : CmpQ fr F) (d : Array (Rq fr)) (a b id n : Nat) (σ : Sto) (h8 : 8 ≤ b - a) (h60 : b - a < 130) (hb : b ≤ d.size) (hn : d.size < 1000000) (hid : id < n) (hσ : Hs fr σ id d) {Q : V → Sto → Nat → Prop}
 (hQ : ∀ σ' d' n', n ≤ n' → Hs fr σ' id d' → (∀ i, i ≠ id → i < n → σ' i = σ i) → PermIn a b d d' → Q .undef σ' n') :
 run T (.raw 73 [.ref id 0 d.size 2, .int .i64 (a : Int), .int .i64 (b : Int), .fn F []] σ n 0) (memQ Q) := by
 refine run_rawE (fn := g73) rfl rfl ?_
 simp only [g73, b73, zO, zN, zM, zL, zG, zP, zQ, zI, zA, zT, zF, zB, zC, zD, zE, zH, zJ, zK]
 have hp : ∀ d' : Array (Rq fr), PermIn a b d d' → d'.size = d.size := fun d' h => h.1
 obtain ⟨L, hL⟩ : ∃ L, L = b - a := ⟨_, rfl⟩
 have w1 : IntKind.i64.wrap ((b : Int) - (a : Int)) = (L : Int) := by rw [wrap_i64] <;> omega
 have c8 : (8 : Int) ≤ (L : Int) := by omega
 obtain ⟨M, hM1, hM2, hM⟩ := r85 L (by omega) (by omega)
 have f85 := callE_tr (fs := true) (by decide) hM (by simp [Tr]) rfl
 have q4 := bin_quo4 L (by omega)
 have wu : IntKind.u64.wrap (L : Int) = (L : Int) := by rw [wrap_u64] <;> omega
 have w2 : IntKind.i64.wrap (((L / 4 : Nat) : Int) * 2) = ((L / 4 * 2 : Nat) : Int) := by rw [wrap_i64] <;> omega
 obtain ⟨t, ht⟩ : ∃ t, t = a + L / 4 * 2 := ⟨_, rfl⟩
 have w3 : IntKind.i64.wrap ((a : Int) + ((L / 4 * 2 : Nat) : Int)) = (t : Int) := by rw [wrap_i64] <;> omega
 have w4 : IntKind.i64.wrap ((t : Int) - 1) = ((t - 1 : Nat) : Int) := by rw [wrap_i64] <;> omega
 have w5 : IntKind.i64.wrap ((t : Int) + 1) = ((t + 1 : Nat) : Int) := by rw [wrap_i64] <;> omega
 have wm : IntKind.u64.wrap ((M : Int) - 1) = ((M - 1 : Nat) : Int) := by rw [wrap_u64] <;> omega
 have hidn : (id = n) = False := by simp; omega
 generalize hsz : d.size = N at *
 simp +contextual -implicitDefEqProofs (maxSteps := 2000000) only [↓wP, wS, seval, w1, c8, wu, f85, q4, w2, w3, w4, w5]
 refine WC_loopI 0 (fun (s : Nat × (Array (Rq fr) × Int)) env σ' n' => n' = n + 1 ∧ env 0 = .ref id 0 N 2 ∧ env 1 = .int .i64 (a : Int) ∧ env 8 = .int .i64 (L : Int) ∧ env 9 = .ptr n 1 0 0 ∧ env 10 = .int .u64 (M : Int) ∧ env 11 = .int .i64 (s.1 : Int) ∧
  a ≤ s.1 ∧ s.1 ≤ t + 2 ∧ σ' id = some (.row 2 (rq' s.2.1)) ∧ σ' n = some (.row 1 [.int .u64 s.2.2]) ∧ (∀ i, i ≠ id → i < n → σ' i = σ i) ∧ PermIn a b d s.2.1) (fun s => t + 3 - s.1) ?_ (t - 1, (d, (L : Int))) _ _ _ ?_
 ·intro ⟨i, e, r⟩ env σ1 n1 ⟨h1, h2, h3, h4, h5, h6, h7, h8', h9, h10, h11, h12, h13⟩
  subst h1
  simp only at h7 h8' h9 h10 h11 h13
  have he := hp e h13
  by_cases hlt : i ≤ t + 1
  ·have hlt' : (i : Int) ≤ ((t + 1 : Nat) : Int) := by omega
   have wi : IntKind.i64.wrap ((i : Int) + 1) = ((i + 1 : Nat) : Int) := by rw [wrap_i64] <;> omega
   simp +contextual -implicitDefEqProofs (maxSteps := 2000000) only [↓wP, wS, seval, h2, h3, h4, h5, h6, h7, q4, w2, w3, w5, hlt']
   refine stepW_raw (by decide) (raw86 F hF r n (n + 1) σ1 h11 fun r' σ2 g1 g2 => ?_)
   obtain ⟨y, hy, ey⟩ := bin_and64 r' (M - 1) (by omega)
   have hg : σ2 id = some (.row 2 (rq' e)) := by rw [g2 id (by omega), h10]
   have wy : IntKind.i64.wrap (y : Int) = (y : Int) := by rw [wrap_i64] <;> omega
   have x1 := rq_at (d := e) (i := i) (by omega)
   have l1 : i < N := by omega
   by_cases hge : L ≤ y
   ·have hge' : (L : Int) ≤ (y : Int) := by omega
    have wd : IntKind.i64.wrap ((y : Int) - (L : Int)) = ((y - L : Nat) : Int) := by rw [wrap_i64] <;> omega
    have wa : IntKind.i64.wrap ((a : Int) + ((y - L : Nat) : Int)) = ((a + (y - L) : Nat) : Int) := by rw [wrap_i64] <;> omega
    have x2 := rq_at (d := e) (i := a + (y - L)) (by omega)
    have l2 : a + (y - L) < N := by omega
    obtain ⟨u, v, v', x3⟩ := rw_set_at (d := e) (i := i) (j := a + (y - L)) (x := e[a + (y - L)]!) (by omega)
    simp +contextual -implicitDefEqProofs (maxSteps := 2000000) only [↓wP, wS, seval, h2, h3, h4, h5, h6, h7, wm, ey, wy, hge', wd, wa, hg, x1, x2, x3, l1, l2, wi, hidn]
    refine ⟨(i + 1, (swp e i (a + (y - L)), r')), by dsimp only; omega, rfl, by dsimp only; omega, by dsimp only; omega, ?_, ?_, ?_, ?_⟩
    ·dsimp only; rw [rw_swp]
    ·have a1 : n ≠ id := by omega
     simp only [a1, if_false]; exact g1
    ·intro k hk hkn
     rw [g2 k (by omega), h12 k hk hkn]
    ·exact permIn_trans _ _ _ _ _ h13 (swp_permIn e a b i (a + (y - L)) h8' (by omega) (by omega) (by omega) (by omega))
   ·have hge' : ¬ (L : Int) ≤ (y : Int) := by omega
    have wa : IntKind.i64.wrap ((a : Int) + (y : Int)) = ((a + y : Nat) : Int) := by rw [wrap_i64] <;> omega
    have x2 := rq_at (d := e) (i := a + y) (by omega)
    have l2 : a + y < N := by omega
    obtain ⟨u, v, v', x3⟩ := rw_set_at (d := e) (i := i) (j := a + y) (x := e[a + y]!) (by omega)
    simp +contextual -implicitDefEqProofs (maxSteps := 2000000) only [↓wP, wS, seval, h2, h3, h4, h5, h6, h7, wm, ey, wy, hge', wa, hg, x1, x2, x3, l1, l2, wi, hidn]
    refine ⟨(i + 1, (swp e i (a + y), r')), by dsimp only; omega, rfl, by dsimp only; omega, by dsimp only; omega, ?_, ?_, ?_, ?_⟩
    ·dsimp only; rw [rw_swp]
    ·have a1 : n ≠ id := by omega
     simp only [a1, if_false]; exact g1
    ·intro k hk hkn
     rw [g2 k (by omega), h12 k hk hkn]
    ·exact permIn_trans _ _ _ _ _ h13 (swp_permIn e a b i (a + y) h8' (by omega) (by omega) (by omega) (by omega))
  ·have hlt' : ¬ (i : Int) ≤ ((t + 1 : Nat) : Int) := by omega
   simp +contextual -implicitDefEqProofs (maxSteps := 2000000) only [↓wP, wS, seval, h2, h3, h4, h5, h6, h7, q4, w2, w3, w5, hlt']
   exact hQ _ e _ (by omega) ⟨h10, hσ.2.1, fun i hi => by rw [h12 i (by omega) (by omega)]; exact hσ.2.2 i hi⟩ h12 h13
 ·simp +contextual -implicitDefEqProofs (maxSteps := 2000000) only [↓wP, wS, seval, hidn]
  refine ⟨by omega, by omega, hσ.1, fun i h1 h2 => ?_, permIn_refl _ _ _⟩
  have a1 : i ≠ n := by omega
  simp only [a1, if_false]
end Go.Q.SU
end

section
/- The partitions of a sort. -/
namespace Go.Q.SU
open Go.Q Go.Sort
variable {fr : Fr} [Inhabited (Rq fr)]
theorem su_go {p : Rq fr → Bool} {d : Array (Rq fr)} {i j : Nat} (h : i ≤ j) (hp : p d[i]! = true) : scanUp p d j (i + 1) = scanUp p d j i := by
 conv => rhs; rw [scanUp]
 rw [if_pos (by simp [h, hp])]
theorem su_stop {p : Rq fr → Bool} {d : Array (Rq fr)} {i j : Nat} (h : ¬ i ≤ j ∨ p d[i]! = false) : scanUp p d j i = i := by
 rw [scanUp]
 rcases h with h | h <;> simp [h]
theorem sd_go {p : Rq fr → Bool} {d : Array (Rq fr)} {i j : Nat} (h : i ≤ j + 1) (hp : p d[j + 1]! = true) : scanDown p d i j = scanDown p d i (j + 1) := by
 conv => rhs; rw [scanDown]
 rw [if_pos (by simp [h, hp])]
theorem sd_stop {p : Rq fr → Bool} {d : Array (Rq fr)} {i j : Nat} (h : ¬ i ≤ j ∨ p d[j]! = false) : scanDown p d i j = j := by
 cases j with
 | zero => rfl
 | succ j =>
   rw [scanDown]
   rcases h with h | h
   ·simp [h]
   ·simp [h]
theorem raw77 (F : Nat) (hF : CmpQ fr F) (d : Array (Rq fr)) (a b p id n : Nat) (σ : Sto) (hap : a ≤ p) (hpb : p < b) (hb : b ≤ d.size) (hn : d.size < 1000000) (hσ : Hs fr σ id d) {Q : V → Sto → Nat → Prop}
 (hQ : ∀ σ', At σ' σ id (partitionEqual ahQ d a b p).2 → Q (.int .i64 ((partitionEqual ahQ d a b p).1 : Int)) σ' n) :
 run T (.raw 77 [.ref id 0 d.size 2, .int .i64 (a : Int), .int .i64 (b : Int), .int .i64 (p : Int), .fn F []] σ n 0) (memQ Q) := by
 refine run_rawE (fn := g77) rfl rfl ?_
 simp only [g77, b77, zO, zN, zM, zL, zG, zP, zQ, zI, zA, zT, zF, zB, zC, zD, zE, zH, zJ, zK]
 have w1 : IntKind.i64.wrap ((a : Int) + 1) = ((a + 1 : Nat) : Int) := by rw [wrap_i64] <;> omega
 have w2 : IntKind.i64.wrap ((b : Int) - 1) = ((b - 1 : Nat) : Int) := by rw [wrap_i64] <;> omega
 have y1 := rq_at (d := d) (i := a) (by omega)
 have y2 := rq_at (d := d) (i := p) (by omega)
 obtain ⟨u, v, v', y3⟩ := rw_set_at (d := d) (i := a) (j := p) (x := d[p]!) (by omega)
 have hat0 := (At.refl hσ).swp a p
 have hs0 : (swp d a p).size = d.size := swp_size _ _ _
 unfold partitionEqual at hQ
 generalize hsz : d.size = N at *
 have m1 : a < N := by omega
 have m2 : p < N := by omega
 simp +contextual -implicitDefEqProofs (maxSteps := 2000000) only [↓wP, wS, seval, w1, w2, y1, y2, y3, m1, m2, hσ.1]
 generalize (upd (upd σ id (some (.row 2 ((rq' d).set a (.agg [.int .u64 (d[p]!).id, .ref (d[p]!).k 0 (d[p]!).n 1]))))) id
  (some (.row 2 (((rq' d).set a (.agg [.int .u64 (d[p]!).id, .ref (d[p]!).k 0 (d[p]!).n 1])).set p (.agg [.int .u64 (d[a]!).id, .ref (d[a]!).k 0 (d[a]!).n 1]))))) = σ0 at hat0
 generalize swp d a p = d0 at *
 refine WC_loopI 0 (fun (s : (Nat × Nat) × Array (Rq fr)) env σ' n' => n' = n ∧ env 0 = .ref id 0 N 2 ∧ env 1 = .int .i64 (a : Int) ∧ env 4 = .fn F [] ∧ env 11 = .int .i64 (s.1.1 : Int) ∧ env 12 = .int .i64 (s.1.2 : Int) ∧
  a < s.1.1 ∧ s.1.1 ≤ s.1.2 + 2 ∧ s.1.2 < b ∧ s.2.size = N ∧ At σ' σ id s.2 ∧ partEqLoop ahQ a s.1.1 s.1.2 s.2 = partEqLoop ahQ a (a + 1) (b - 1) d0) (fun s => s.1.2 + 1 - s.1.1) ?_ ((a + 1, b - 1), d0) _ _ _ ?_
 ·intro ⟨⟨i, j⟩, e⟩ env σ1 n1 ⟨h1, h2, h3, h4, h5, h6, h7, h8, h9, h10, h11, h12⟩
  subst h1
  simp only at h5 h6 h7 h8 h9 h10 h11 h12
  have hat := h11.1.1
  have hFq := hF.at h11.1
  have xa := rq_at (d := e) (i := a) (by omega)
  rw [partEqLoop_eq] at h12
  simp +contextual -implicitDefEqProofs (maxSteps := 2000000) only [↓wP, wS, seval]
  refine WC_loopE 2 0 (fun (i' : Nat) env σ' n' => σ' = σ1 ∧ n' = n1 ∧ env 0 = .ref id 0 N 2 ∧ env 1 = .int .i64 (a : Int) ∧ env 4 = .fn F [] ∧ env 11 = .int .i64 (i' : Int) ∧ env 12 = .int .i64 (j : Int) ∧
   i ≤ i' ∧ i' ≤ j + 2 ∧ scanUp (fun x => !ahQ e[a]! x) e j i' = scanUp (fun x => !ahQ e[a]! x) e j i) (fun i' => j + 1 - i')
   (fun env σ' n' => σ' = σ1 ∧ n' = n1 ∧ env 0 = .ref id 0 N 2 ∧ env 1 = .int .i64 (a : Int) ∧ env 4 = .fn F [] ∧ env 11 = .int .i64 ((scanUp (fun x => !ahQ e[a]! x) e j i : Nat) : Int) ∧ env 12 = .int .i64 (j : Int) ∧ scanUp (fun x => !ahQ e[a]! x) e j i ≤ j + 2) ?_ ?_ i _ _ _ ?_
  ·clear h2 h3 h4 h5 h6
   intro i' env σ2 n2 ⟨k1, k2, k3, k4, k5, k6, k7, k8, k9, k10⟩
   subst k1 k2
   by_cases hle : i' ≤ j
   ·have hle' : (i' : Int) ≤ (j : Int) := by omega
    have wi : IntKind.i64.wrap ((i' : Int) + 1) = ((i' + 1 : Nat) : Int) := by rw [wrap_i64] <;> omega
    have x1 := rq_at (d := e) (i := i') (by omega)
    have l1 : i' < N := by omega
    by_cases hc : cmpU (e[a]!).id (e[i']!).id < 0
    ·have hah : ahQ e[a]! e[i']! = true := by rw [← cmpQ_lt]; simpa using hc
     have hst := su_stop (p := fun x => !ahQ e[a]! x) (d := e) (i := i') (j := j) (.inr (by simp [hah]))
     rw [hst] at k10
     rw [← k10]
     simp +contextual -implicitDefEqProofs (maxSteps := 2000000) only [↓wP, wS, seval, exQ_exit, k3, k4, k5, k6, k7, hle', hat, m1, l1, xa, x1, hFq, hc]
     omega
    ·have hah : ahQ e[a]! e[i']! = false := by rw [← cmpQ_lt]; simpa using hc
     simp +contextual -implicitDefEqProofs (maxSteps := 2000000) only [↓wP, wS, seval, exQ_exit, k3, k4, k5, k6, k7, hle', hat, m1, l1, xa, x1, hFq, hc, wi]
     exact ⟨i' + 1, by omega, rfl, by omega, by omega, by rw [su_go hle (by simp [hah])]; exact k10⟩
   ·have hle' : ¬ (i' : Int) ≤ (j : Int) := by omega
    have hst := su_stop (p := fun x => !ahQ e[a]! x) (d := e) (i := i') (j := j) (.inl hle)
    rw [hst] at k10
    rw [← k10]
    simp +contextual -implicitDefEqProofs (maxSteps := 2000000) only [↓wP, wS, seval, exQ_exit, k3, k4, k5, k6, k7, hle']
    omega
  ·clear h2 h3 h4 h5 h6
   intro env σ2 n2 ⟨k1, k2, h2, h3, h4, h5, h6, k8⟩
   subst k1 k2
   have hge := scanUp_ge (fun x => !ahQ e[a]! x) e j i
   generalize scanUp (fun x => !ahQ e[a]! x) e j i = i2 at *
   simp +contextual -implicitDefEqProofs (maxSteps := 2000000) only [↓wP, wS, seval]
   refine WC_loopE 4 0 (fun (j' : Nat) env σ' n' => σ' = σ2 ∧ n' = n2 ∧ env 0 = .ref id 0 N 2 ∧ env 1 = .int .i64 (a : Int) ∧ env 4 = .fn F [] ∧ env 11 = .int .i64 (i2 : Int) ∧ env 12 = .int .i64 (j' : Int) ∧
    j' ≤ j ∧ i2 ≤ j' + 2 ∧ scanDown (fun x => ahQ e[a]! x) e i2 j' = scanDown (fun x => ahQ e[a]! x) e i2 j) (fun j' => j')
    (fun env σ' n' => σ' = σ2 ∧ n' = n2 ∧ env 0 = .ref id 0 N 2 ∧ env 1 = .int .i64 (a : Int) ∧ env 4 = .fn F [] ∧ env 11 = .int .i64 (i2 : Int) ∧ env 12 = .int .i64 ((scanDown (fun x => ahQ e[a]! x) e i2 j : Nat) : Int) ∧ i2 ≤ scanDown (fun x => ahQ e[a]! x) e i2 j + 2) ?_ ?_ j _ _ _ ?_
   ·clear h2 h3 h4 h5 h6
    intro j' env σ3 n3 ⟨k1, k2, k3, k4, k5, k6, k7, k8, k9, k10⟩
    subst k1 k2
    by_cases hle : i2 ≤ j'
    ·have hle' : (i2 : Int) ≤ (j' : Int) := by omega
     obtain ⟨j', rfl⟩ : ∃ q, j' = q + 1 := ⟨j' - 1, by omega⟩
     have wi : IntKind.i64.wrap (((j' + 1 : Nat) : Int) - 1) = (j' : Int) := by rw [wrap_i64] <;> omega
     have x1 := rq_at (d := e) (i := j' + 1) (by omega)
     have l1 : j' + 1 < N := by omega
     by_cases hc : cmpU (e[a]!).id (e[j' + 1]!).id < 0
     ·have hah : ahQ e[a]! e[j' + 1]! = true := by rw [← cmpQ_lt]; simpa using hc
      simp +contextual -implicitDefEqProofs (maxSteps := 2000000) only [↓wP, wS, seval, exQ_exit, k3, k4, k5, k6, k7, hle', hat, m1, l1, xa, x1, hFq, hc, wi]
      exact ⟨j', by omega, rfl, by omega, by omega, by rw [sd_go hle hah]; exact k10⟩
     ·have hah : ahQ e[a]! e[j' + 1]! = false := by rw [← cmpQ_lt]; simpa using hc
      have hst := sd_stop (p := fun x => ahQ e[a]! x) (d := e) (i := i2) (j := j' + 1) (.inr hah)
      rw [hst] at k10
      rw [← k10]
      simp +contextual -implicitDefEqProofs (maxSteps := 2000000) only [↓wP, wS, seval, exQ_exit, k3, k4, k5, k6, k7, hle', hat, m1, l1, xa, x1, hFq, hc]
      omega
    ·have hle' : ¬ (i2 : Int) ≤ (j' : Int) := by omega
     have hst := sd_stop (p := fun x => ahQ e[a]! x) (d := e) (i := i2) (j := j') (.inl hle)
     rw [hst] at k10
     rw [← k10]
     simp +contextual -implicitDefEqProofs (maxSteps := 2000000) only [↓wP, wS, seval, exQ_exit, k3, k4, k5, k6, k7, hle']
     omega
   ·clear h2 h3 h4 h5 h6
    intro env σ3 n3 ⟨k1, k2, h2, h3, h4, h5, h6, k9⟩
    subst k1 k2
    have hle := scanDown_le (fun x => ahQ e[a]! x) e i2 j
    generalize scanDown (fun x => ahQ e[a]! x) e i2 j = j2 at *
    by_cases hgt : j2 < i2
    ·have hgt' : (j2 : Int) < (i2 : Int) := by omega
     rw [if_pos hgt] at h12
     simp +contextual -implicitDefEqProofs (maxSteps := 2000000) only [↓wP, wS, seval, h2, h3, h4, h5, h6, hgt']
     have := hQ σ3
     rw [← h12] at this
     exact this h11
    ·have hgt' : ¬ (j2 : Int) < (i2 : Int) := by omega
     rw [if_neg hgt] at h12
     have wi : IntKind.i64.wrap ((i2 : Int) + 1) = ((i2 + 1 : Nat) : Int) := by rw [wrap_i64] <;> omega
     have wj : IntKind.i64.wrap ((j2 : Int) - 1) = ((j2 - 1 : Nat) : Int) := by rw [wrap_i64] <;> omega
     have x1 := rq_at (d := e) (i := i2) (by omega)
     have x2 := rq_at (d := e) (i := j2) (by omega)
     obtain ⟨u, v, v', x3⟩ := rw_set_at (d := e) (i := i2) (j := j2) (x := e[j2]!) (by omega)
     have l1 : i2 < N := by omega
     have l2 : j2 < N := by omega
     simp +contextual -implicitDefEqProofs (maxSteps := 2000000) only [↓wP, wS, seval, h2, h3, h4, h5, h6, hgt', wi, wj, x1, x2, x3, l1, l2, hat]
     refine ⟨((i2 + 1, j2 - 1), swp e i2 j2), by dsimp only; omega, rfl, rfl, by dsimp only; omega, by dsimp only; omega, by dsimp only; omega, by rw [swp_size, h10], h11.swp _ _, h12⟩
   ·simp +contextual -implicitDefEqProofs (maxSteps := 2000000) only [↓wP, wS, seval, h2, h3, h4, h5, h6]
    exact k8
  ·simp +contextual -implicitDefEqProofs (maxSteps := 2000000) only [↓wP, wS, seval, h2, h3, h4, h5, h6]
   exact h8
 ·simp +contextual -implicitDefEqProofs (maxSteps := 2000000) only [↓wP, wS, seval]
  exact ⟨by omega, by omega, by omega, hs0, hat0⟩
theorem raw78 (F : Nat) (hF : CmpQ fr F) (d : Array (Rq fr)) (a b p id n : Nat) (σ : Sto) (hap : a ≤ p) (hpb : p < b) (hb : b ≤ d.size) (hn : d.size < 1000000) (hσ : Hs fr σ id d) {Q : V → Sto → Nat → Prop}
 (hQ : ∀ σ', At σ' σ id (partition ahQ d a b p).2.2 → Q (.tup [.int .i64 ((partition ahQ d a b p).1 : Int), .bool (partition ahQ d a b p).2.1]) σ' n) :
 run T (.raw 78 [.ref id 0 d.size 2, .int .i64 (a : Int), .int .i64 (b : Int), .int .i64 (p : Int), .fn F []] σ n 0) (memQ Q) := by
 refine run_rawE (fn := g78) rfl rfl ?_
 simp only [g78, b78, zO, zN, zM, zL, zG, zP, zQ, zI, zA, zT, zF, zB, zC, zD, zE, zH, zJ, zK]
 have w1 : IntKind.i64.wrap ((a : Int) + 1) = ((a + 1 : Nat) : Int) := by rw [wrap_i64] <;> omega
 have w2 : IntKind.i64.wrap ((b : Int) - 1) = ((b - 1 : Nat) : Int) := by rw [wrap_i64] <;> omega
 have y1 := rq_at (d := d) (i := a) (by omega)
 have y2 := rq_at (d := d) (i := p) (by omega)
 obtain ⟨u, v, v', y3⟩ := rw_set_at (d := d) (i := a) (j := p) (x := d[p]!) (by omega)
 have h11 := (At.refl hσ).swp a p
 have h10 : (swp d a p).size = d.size := swp_size _ _ _
 unfold partition at hQ
 generalize hsz : d.size = N at *
 have m1 : a < N := by omega
 have m2 : p < N := by omega
 simp +contextual -implicitDefEqProofs (maxSteps := 2000000) only [↓wP, wS, seval, w1, w2, y1, y2, y3, m1, m2, hσ.1]
 generalize (upd (upd σ id (some (.row 2 ((rq' d).set a (.agg [.int .u64 (d[p]!).id, .ref (d[p]!).k 0 (d[p]!).n 1]))))) id
  (some (.row 2 (((rq' d).set a (.agg [.int .u64 (d[p]!).id, .ref (d[p]!).k 0 (d[p]!).n 1])).set p (.agg [.int .u64 (d[a]!).id, .ref (d[a]!).k 0 (d[a]!).n 1]))))) = σ1 at h11
 generalize swp d a p = e at *
 simp only [gt_iff_lt] at hQ
 have hat := h11.1.1
 have hFq := hF.at h11.1
 have xa := rq_at (d := e) (i := a) (by omega)
 obtain ⟨n1, hn1⟩ : ∃ n1, n1 = n := ⟨_, rfl⟩
 rw [← hn1] at hQ ⊢
 have h8 : a + 1 ≤ b - 1 + 2 := by omega
 have h2 : True := trivial
 have h3 : True := trivial
 have h4 : True := trivial
 have h5 : True := trivial
 have h6 : True := trivial
 refine WC_loopE 0 0 (fun (i' : Nat) env σ' n' => σ' = σ1 ∧ n' = n1 ∧ env 0 = .ref id 0 N 2 ∧ env 1 = .int .i64 (a : Int) ∧ env 4 = .fn F [] ∧ env 12 = .int .i64 (i' : Int) ∧ env 13 = .int .i64 ((b - 1 : Nat) : Int) ∧
  a + 1 ≤ i' ∧ i' ≤ b - 1 + 2 ∧ scanUp (fun x => ahQ x e[a]!) e (b - 1) i' = scanUp (fun x => ahQ x e[a]!) e (b - 1) (a + 1)) (fun i' => b - 1 + 1 - i')
  (fun env σ' n' => σ' = σ1 ∧ n' = n1 ∧ env 0 = .ref id 0 N 2 ∧ env 1 = .int .i64 (a : Int) ∧ env 4 = .fn F [] ∧ env 12 = .int .i64 ((scanUp (fun x => ahQ x e[a]!) e (b - 1) (a + 1) : Nat) : Int) ∧ env 13 = .int .i64 ((b - 1 : Nat) : Int) ∧ scanUp (fun x => ahQ x e[a]!) e (b - 1) (a + 1) ≤ b - 1 + 2) ?_ ?_ (a + 1) _ _ _ ?_
 ·clear h2 h3 h4 h5 h6
  intro i' env σ2 n2 ⟨k1, k2, k3, k4, k5, k6, k7, k8, k9, k10⟩
  subst k1 k2
  by_cases hle : i' ≤ b - 1
  ·have hle' : (i' : Int) ≤ ((b - 1 : Nat) : Int) := by omega
   have wi : IntKind.i64.wrap ((i' : Int) + 1) = ((i' + 1 : Nat) : Int) := by rw [wrap_i64] <;> omega
   have x1 := rq_at (d := e) (i := i') (by omega)
   have l1 : i' < N := by omega
   by_cases hc : cmpU (e[i']!).id (e[a]!).id < 0
   ·have hah : ahQ e[i']! e[a]! = true := by rw [← cmpQ_lt]; simpa using hc
    simp +contextual -implicitDefEqProofs (maxSteps := 2000000) only [↓wP, wS, seval, exQ_exit, k3, k4, k5, k6, k7, hle', hat, m1, l1, xa, x1, hFq, hc, wi]
    exact ⟨i' + 1, by omega, rfl, by omega, by omega, by rw [su_go hle (by simp [hah])]; exact k10⟩
   ·have hah : ahQ e[i']! e[a]! = false := by rw [← cmpQ_lt]; simpa using hc
    have hst := su_stop (p := (fun x => ahQ x e[a]!)) (d := e) (i := i') (j := b - 1) (.inr (by simp [hah]))
    rw [hst] at k10
    rw [← k10]
    simp +contextual -implicitDefEqProofs (maxSteps := 2000000) only [↓wP, wS, seval, exQ_exit, k3, k4, k5, k6, k7, hle', hat, m1, l1, xa, x1, hFq, hc]
    omega
  ·have hle' : ¬ (i' : Int) ≤ ((b - 1 : Nat) : Int) := by omega
   have hst := su_stop (p := (fun x => ahQ x e[a]!)) (d := e) (i := i') (j := b - 1) (.inl hle)
   rw [hst] at k10
   rw [← k10]
   simp +contextual -implicitDefEqProofs (maxSteps := 2000000) only [↓wP, wS, seval, exQ_exit, k3, k4, k5, k6, k7, hle']
   omega
 ·clear h2 h3 h4 h5 h6
  intro env σ2 n2 ⟨k1, k2, h2, h3, h4, h5, h6, k8⟩
  subst k1 k2
  have hge := scanUp_ge (fun x => ahQ x e[a]!) e (b - 1) (a + 1)
  generalize scanUp (fun x => ahQ x e[a]!) e (b - 1) (a + 1) = i2 at *
  simp +contextual -implicitDefEqProofs (maxSteps := 2000000) only [↓wP, wS, seval]
  refine WC_loopE 2 0 (fun (j' : Nat) env σ' n' => σ' = σ2 ∧ n' = n2 ∧ env 0 = .ref id 0 N 2 ∧ env 1 = .int .i64 (a : Int) ∧ env 4 = .fn F [] ∧ env 12 = .int .i64 (i2 : Int) ∧ env 13 = .int .i64 (j' : Int) ∧
   j' ≤ b - 1 ∧ i2 ≤ j' + 2 ∧ scanDown (fun x => !ahQ x e[a]!) e i2 j' = scanDown (fun x => !ahQ x e[a]!) e i2 (b - 1)) (fun j' => j')
   (fun env σ' n' => σ' = σ2 ∧ n' = n2 ∧ env 0 = .ref id 0 N 2 ∧ env 1 = .int .i64 (a : Int) ∧ env 4 = .fn F [] ∧ env 12 = .int .i64 (i2 : Int) ∧ env 13 = .int .i64 ((scanDown (fun x => !ahQ x e[a]!) e i2 (b - 1) : Nat) : Int) ∧ i2 ≤ scanDown (fun x => !ahQ x e[a]!) e i2 (b - 1) + 2) ?_ ?_ (b - 1) _ _ _ ?_
  ·clear h2 h3 h4 h5 h6
   intro j' env σ3 n3 ⟨k1, k2, k3, k4, k5, k6, k7, k8, k9, k10⟩
   subst k1 k2
   by_cases hle : i2 ≤ j'
   ·have hle' : (i2 : Int) ≤ (j' : Int) := by omega
    obtain ⟨j', rfl⟩ : ∃ q, j' = q + 1 := ⟨j' - 1, by omega⟩
    have wi : IntKind.i64.wrap (((j' + 1 : Nat) : Int) - 1) = (j' : Int) := by rw [wrap_i64] <;> omega
    have x1 := rq_at (d := e) (i := j' + 1) (by omega)
    have l1 : j' + 1 < N := by omega
    by_cases hc : cmpU (e[j' + 1]!).id (e[a]!).id < 0
    ·have hah : ahQ e[j' + 1]! e[a]! = true := by rw [← cmpQ_lt]; simpa using hc
     have hst := sd_stop (p := (fun x => !ahQ x e[a]!)) (d := e) (i := i2) (j := j' + 1) (.inr (by simp [hah]))
     rw [hst] at k10
     rw [← k10]
     simp +contextual -implicitDefEqProofs (maxSteps := 2000000) only [↓wP, wS, seval, exQ_exit, k3, k4, k5, k6, k7, hle', hat, m1, l1, xa, x1, hFq, hc]
     omega
    ·have hah : ahQ e[j' + 1]! e[a]! = false := by rw [← cmpQ_lt]; simpa using hc
     simp +contextual -implicitDefEqProofs (maxSteps := 2000000) only [↓wP, wS, seval, exQ_exit, k3, k4, k5, k6, k7, hle', hat, m1, l1, xa, x1, hFq, hc, wi]
     exact ⟨j', by omega, rfl, by omega, by omega, by rw [sd_go hle (by simp [hah])]; exact k10⟩
   ·have hle' : ¬ (i2 : Int) ≤ (j' : Int) := by omega
    have hst := sd_stop (p := (fun x => !ahQ x e[a]!)) (d := e) (i := i2) (j := j') (.inl hle)
    rw [hst] at k10
    rw [← k10]
    simp +contextual -implicitDefEqProofs (maxSteps := 2000000) only [↓wP, wS, seval, exQ_exit, k3, k4, k5, k6, k7, hle']
    omega
  ·clear h2 h3 h4 h5 h6
   intro env σ3 n3 ⟨k1, k2, h2, h3, h4, h5, h6, k9⟩
   subst k1 k2
   have hle := scanDown_le (fun x => !ahQ x e[a]!) e i2 (b - 1)
   generalize scanDown (fun x => !ahQ x e[a]!) e i2 (b - 1) = j2 at *
   by_cases hgt : j2 < i2
   ·have hgt' : (j2 : Int) < (i2 : Int) := by omega
    have x1 := rq_at (d := e) (i := j2) (by omega)
    have x2 := rq_at (d := e) (i := a) (by omega)
    obtain ⟨u, v, v', x3⟩ := rw_set_at (d := e) (i := j2) (j := a) (x := e[a]!) (by omega)
    have l1 : j2 < N := by omega
    have l2 : a < N := by omega
    simp +contextual -implicitDefEqProofs (maxSteps := 2000000) only [↓wP, wS, seval, h2, h3, h4, h5, h6, hgt', x1, x2, x3, l1, l2, hat]
    rw [if_pos hgt] at hQ
    exact hQ _ (h11.swp _ _)
   ·have hgt' : ¬ (j2 : Int) < (i2 : Int) := by omega
    rw [if_neg hgt] at hQ
    have wi : IntKind.i64.wrap ((i2 : Int) + 1) = ((i2 + 1 : Nat) : Int) := by rw [wrap_i64] <;> omega
    have wj : IntKind.i64.wrap ((j2 : Int) - 1) = ((j2 - 1 : Nat) : Int) := by rw [wrap_i64] <;> omega
    have x1 := rq_at (d := e) (i := i2) (by omega)
    have x2 := rq_at (d := e) (i := j2) (by omega)
    obtain ⟨u, v, v', x3⟩ := rw_set_at (d := e) (i := i2) (j := j2) (x := e[j2]!) (by omega)
    have l1 : i2 < N := by omega
    have l2 : j2 < N := by omega
    have hat1 := h11.swp i2 j2
    have hs1 : (swp e i2 j2).size = N := by rw [swp_size, h10]
    simp +contextual -implicitDefEqProofs (maxSteps := 2000000) only [↓wP, wS, seval, h2, h3, h4, h5, h6, hgt', wi, wj, x1, x2, x3, l1, l2, hat]
    generalize (upd (upd σ3 id (some (.row 2 ((rq' e).set i2 (.agg [.int .u64 (e[j2]!).id, .ref (e[j2]!).k 0 (e[j2]!).n 1]))))) id
     (some (.row 2 (((rq' e).set i2 (.agg [.int .u64 (e[j2]!).id, .ref (e[j2]!).k 0 (e[j2]!).n 1])).set j2 (.agg [.int .u64 (e[i2]!).id, .ref (e[i2]!).k 0 (e[i2]!).n 1]))))) = σ5 at hat1
    generalize swp e i2 j2 = d1 at *
    have hR : ∀ (j3 : Nat) (e : Array (Rq fr)), (j3, e) = partLoop ahQ a (i2 + 1) (j2 - 1) d1 → e.size = N → j3 < b → ∀ σ', At σ' σ id (swp e j3 a) → Q (.tup [.int .i64 (j3 : Int), .bool false]) σ' n3 := by
     intro j3 e h1 _ _ σ' h4
     rw [← h1] at hQ
     exact hQ _ h4
    generalize i2 = i0 at *
    generalize j2 = j0 at *
    clear x1 x2 x3 l1 l2 k8 k9 h10 h11 hgt' wi wj
    refine WC_loopI 0 (fun (s : (Nat × Nat) × Array (Rq fr)) env σ' n' => n' = n3 ∧ env 0 = .ref id 0 N 2 ∧ env 1 = .int .i64 (a : Int) ∧ env 4 = .fn F [] ∧ env 12 = .int .i64 (s.1.1 : Int) ∧ env 13 = .int .i64 (s.1.2 : Int) ∧
     a < s.1.1 ∧ s.1.1 ≤ s.1.2 + 2 ∧ s.1.2 < b ∧ s.2.size = N ∧ At σ' σ id s.2 ∧ partLoop ahQ a s.1.1 s.1.2 s.2 = partLoop ahQ a (i0 + 1) (j0 - 1) d1) (fun s => s.1.2 + 1 - s.1.1) ?_ ((i0 + 1, j0 - 1), d1) _ _ _ ?_
    ·clear hat xa
     intro ⟨⟨i, j⟩, e⟩ env σ1 n1 ⟨h1, h2, h3, h4, h5, h6, h7, h8, h9, h10, h11, h12⟩
     subst h1
     simp only at h5 h6 h7 h8 h9 h10 h11 h12
     have hat := h11.1.1
     have hFq := hF.at h11.1
     have xa := rq_at (d := e) (i := a) (by omega)
     rw [partLoop_eq] at h12
     simp +contextual -implicitDefEqProofs (maxSteps := 2000000) only [↓wP, wS, seval]
     refine WC_loopE 6 0 (fun (i' : Nat) env σ' n' => σ' = σ1 ∧ n' = n1 ∧ env 0 = .ref id 0 N 2 ∧ env 1 = .int .i64 (a : Int) ∧ env 4 = .fn F [] ∧ env 12 = .int .i64 (i' : Int) ∧ env 13 = .int .i64 ((j : Nat) : Int) ∧
      i ≤ i' ∧ i' ≤ j + 2 ∧ scanUp (fun x => ahQ x e[a]!) e (j) i' = scanUp (fun x => ahQ x e[a]!) e (j) (i)) (fun i' => j + 1 - i')
      (fun env σ' n' => σ' = σ1 ∧ n' = n1 ∧ env 0 = .ref id 0 N 2 ∧ env 1 = .int .i64 (a : Int) ∧ env 4 = .fn F [] ∧ env 12 = .int .i64 ((scanUp (fun x => ahQ x e[a]!) e (j) (i) : Nat) : Int) ∧ env 13 = .int .i64 ((j : Nat) : Int) ∧ scanUp (fun x => ahQ x e[a]!) e (j) (i) ≤ j + 2) ?_ ?_ (i) _ _ _ ?_
     ·clear h2 h3 h4 h5 h6
      intro i' env σ2 n2 ⟨k1, k2, k3, k4, k5, k6, k7, k8, k9, k10⟩
      subst k1 k2
      by_cases hle : i' ≤ j
      ·have hle' : (i' : Int) ≤ ((j : Nat) : Int) := by omega
       have wi : IntKind.i64.wrap ((i' : Int) + 1) = ((i' + 1 : Nat) : Int) := by rw [wrap_i64] <;> omega
       have x1 := rq_at (d := e) (i := i') (by omega)
       have l1 : i' < N := by omega
       by_cases hc : cmpU (e[i']!).id (e[a]!).id < 0
       ·have hah : ahQ e[i']! e[a]! = true := by rw [← cmpQ_lt]; simpa using hc
        simp +contextual -implicitDefEqProofs (maxSteps := 2000000) only [↓wP, wS, seval, exQ_exit, k3, k4, k5, k6, k7, hle', hat, m1, l1, xa, x1, hFq, hc, wi]
        exact ⟨i' + 1, by omega, rfl, by omega, by omega, by rw [su_go hle (by simp [hah])]; exact k10⟩
       ·have hah : ahQ e[i']! e[a]! = false := by rw [← cmpQ_lt]; simpa using hc
        have hst := su_stop (p := (fun x => ahQ x e[a]!)) (d := e) (i := i') (j := j) (.inr (by simp [hah]))
        rw [hst] at k10
        rw [← k10]
        simp +contextual -implicitDefEqProofs (maxSteps := 2000000) only [↓wP, wS, seval, exQ_exit, k3, k4, k5, k6, k7, hle', hat, m1, l1, xa, x1, hFq, hc]
        omega
      ·have hle' : ¬ (i' : Int) ≤ ((j : Nat) : Int) := by omega
       have hst := su_stop (p := (fun x => ahQ x e[a]!)) (d := e) (i := i') (j := j) (.inl hle)
       rw [hst] at k10
       rw [← k10]
       simp +contextual -implicitDefEqProofs (maxSteps := 2000000) only [↓wP, wS, seval, exQ_exit, k3, k4, k5, k6, k7, hle']
       omega
     ·clear h2 h3 h4 h5 h6
      intro env σ2 n2 ⟨k1, k2, h2, h3, h4, h5, h6, k8⟩
      subst k1 k2
      have hge := scanUp_ge (fun x => ahQ x e[a]!) e (j) (i)
      generalize scanUp (fun x => ahQ x e[a]!) e (j) (i) = i2 at *
      simp +contextual -implicitDefEqProofs (maxSteps := 2000000) only [↓wP, wS, seval]
      refine WC_loopE 8 0 (fun (j' : Nat) env σ' n' => σ' = σ2 ∧ n' = n2 ∧ env 0 = .ref id 0 N 2 ∧ env 1 = .int .i64 (a : Int) ∧ env 4 = .fn F [] ∧ env 12 = .int .i64 (i2 : Int) ∧ env 13 = .int .i64 (j' : Int) ∧
       j' ≤ j ∧ i2 ≤ j' + 2 ∧ scanDown (fun x => !ahQ x e[a]!) e i2 j' = scanDown (fun x => !ahQ x e[a]!) e i2 (j)) (fun j' => j')
       (fun env σ' n' => σ' = σ2 ∧ n' = n2 ∧ env 0 = .ref id 0 N 2 ∧ env 1 = .int .i64 (a : Int) ∧ env 4 = .fn F [] ∧ env 12 = .int .i64 (i2 : Int) ∧ env 13 = .int .i64 ((scanDown (fun x => !ahQ x e[a]!) e i2 (j) : Nat) : Int) ∧ i2 ≤ scanDown (fun x => !ahQ x e[a]!) e i2 (j) + 2) ?_ ?_ (j) _ _ _ ?_
      ·clear h2 h3 h4 h5 h6
       intro j' env σ3 n3 ⟨k1, k2, k3, k4, k5, k6, k7, k8, k9, k10⟩
       subst k1 k2
       by_cases hle : i2 ≤ j'
       ·have hle' : (i2 : Int) ≤ (j' : Int) := by omega
        obtain ⟨j', rfl⟩ : ∃ q, j' = q + 1 := ⟨j' - 1, by omega⟩
        have wi : IntKind.i64.wrap (((j' + 1 : Nat) : Int) - 1) = (j' : Int) := by rw [wrap_i64] <;> omega
        have x1 := rq_at (d := e) (i := j' + 1) (by omega)
        have l1 : j' + 1 < N := by omega
        by_cases hc : cmpU (e[j' + 1]!).id (e[a]!).id < 0
        ·have hah : ahQ e[j' + 1]! e[a]! = true := by rw [← cmpQ_lt]; simpa using hc
         have hst := sd_stop (p := (fun x => !ahQ x e[a]!)) (d := e) (i := i2) (j := j' + 1) (.inr (by simp [hah]))
         rw [hst] at k10
         rw [← k10]
         simp +contextual -implicitDefEqProofs (maxSteps := 2000000) only [↓wP, wS, seval, exQ_exit, k3, k4, k5, k6, k7, hle', hat, m1, l1, xa, x1, hFq, hc]
         omega
        ·have hah : ahQ e[j' + 1]! e[a]! = false := by rw [← cmpQ_lt]; simpa using hc
         simp +contextual -implicitDefEqProofs (maxSteps := 2000000) only [↓wP, wS, seval, exQ_exit, k3, k4, k5, k6, k7, hle', hat, m1, l1, xa, x1, hFq, hc, wi]
         exact ⟨j', by omega, rfl, by omega, by omega, by rw [sd_go hle (by simp [hah])]; exact k10⟩
       ·have hle' : ¬ (i2 : Int) ≤ (j' : Int) := by omega
        have hst := sd_stop (p := (fun x => !ahQ x e[a]!)) (d := e) (i := i2) (j := j') (.inl hle)
        rw [hst] at k10
        rw [← k10]
        simp +contextual -implicitDefEqProofs (maxSteps := 2000000) only [↓wP, wS, seval, exQ_exit, k3, k4, k5, k6, k7, hle']
        omega
      ·clear h2 h3 h4 h5 h6
       intro env σ3 n3 ⟨k1, k2, h2, h3, h4, h5, h6, k9⟩
       subst k1 k2
       have hle := scanDown_le (fun x => !ahQ x e[a]!) e i2 (j)
       generalize scanDown (fun x => !ahQ x e[a]!) e i2 (j) = j2 at *
       by_cases hgt : j2 < i2
       ·have hgt' : (j2 : Int) < (i2 : Int) := by omega
        rw [if_pos hgt] at h12
        have x1 := rq_at (d := e) (i := j2) (by omega)
        have x2 := rq_at (d := e) (i := a) (by omega)
        obtain ⟨u, v, v', x3⟩ := rw_set_at (d := e) (i := j2) (j := a) (x := e[a]!) (by omega)
        have l1 : j2 < N := by omega
        have l2 : a < N := by omega
        simp +contextual -implicitDefEqProofs (maxSteps := 2000000) only [↓wP, wS, seval, h2, h3, h4, h5, h6, hgt', x1, x2, x3, l1, l2, hat]
        have := hR j2 e h12 h10 (by omega)
        exact this _ (h11.swp _ _)
       ·have hgt' : ¬ (j2 : Int) < (i2 : Int) := by omega
        rw [if_neg hgt] at h12
        have wi : IntKind.i64.wrap ((i2 : Int) + 1) = ((i2 + 1 : Nat) : Int) := by rw [wrap_i64] <;> omega
        have wj : IntKind.i64.wrap ((j2 : Int) - 1) = ((j2 - 1 : Nat) : Int) := by rw [wrap_i64] <;> omega
        have x1 := rq_at (d := e) (i := i2) (by omega)
        have x2 := rq_at (d := e) (i := j2) (by omega)
        obtain ⟨u, v, v', x3⟩ := rw_set_at (d := e) (i := i2) (j := j2) (x := e[j2]!) (by omega)
        have l1 : i2 < N := by omega
        have l2 : j2 < N := by omega
        simp +contextual -implicitDefEqProofs (maxSteps := 2000000) only [↓wP, wS, seval, h2, h3, h4, h5, h6, hgt', wi, wj, x1, x2, x3, l1, l2, hat]
        refine ⟨((i2 + 1, j2 - 1), swp e i2 j2), by dsimp only; omega, rfl, rfl, by dsimp only; omega, by dsimp only; omega, by dsimp only; omega, by rw [swp_size, h10], h11.swp _ _, h12⟩
      ·simp +contextual -implicitDefEqProofs (maxSteps := 2000000) only [↓wP, wS, seval, h2, h3, h4, h5, h6]
       exact k8
     ·simp +contextual -implicitDefEqProofs (maxSteps := 2000000) only [↓wP, wS, seval, h2, h3, h4, h5, h6]
      omega
    ·simp +contextual -implicitDefEqProofs (maxSteps := 2000000) only [↓wP, wS, seval, h2, h3, h4, h5, h6]
     exact ⟨by omega, by omega, by omega, hs1, hat1⟩
  ·simp +contextual -implicitDefEqProofs (maxSteps := 2000000) only [↓wP, wS, seval, h2, h3, h4, h5, h6]
   exact k8
 ·simp +contextual -implicitDefEqProofs (maxSteps := 2000000) only [↓wP, wS, seval, h2, h3, h4, h5, h6]
  omega
end Go.Q.SU
end

section
/- Heaps; parts that are nearly in order. -/
namespace Go.Q.SU
open Go.Q Go.Sort
open Nat renaming reduceEqDiff → n1w, reduceAdd → n2w, reduceSub → n3w, reduceLeDiff → n4w, reduceLT → n5w, reduceMul → n6w
open Int renaming reduceBNe → i1w, reduceBEq → i2w, reduceLT → i3w, reduceLE → i4w, reduceGT → i5w
variable {fr : Fr} [Inhabited (Rq fr)]
theorem bin_quo2 (m : Nat) (h : m < 9223372036854775808) : binV .quo (.int .i64 (m : Int)) (.int .i64 2) = some (.int .i64 ((m / 2 : Nat) : Int)) := by
 rw [bin_quo .i64 (m : Int) 2 (by decide)]
 have e : (m : Int).tdiv 2 = ((m / 2 : Nat) : Int) := rfl
 rw [e, wrap_nat (by omega)]
theorem raw84 (F : Nat) (hF : CmpQ fr F) (d : Array (Rq fr)) (N lo hi first id n : Nat) (σ : Sto) (hN : d.size = N) (hb : first + hi ≤ N) (hlo : lo ≤ N) (hn : N < 1000000) (hσ : Hs fr σ id d) {Q : V → Sto → Nat → Prop}
 (hQ : ∀ σ', At σ' σ id (siftDown ahQ hi first lo d) → Q .undef σ' n) :
 run T (.raw 84 [.ref id 0 N 2, .int .i64 (lo : Int), .int .i64 (hi : Int), .int .i64 (first : Int), .fn F []] σ n 0) (memQ Q) := by
 refine run_rawE (fn := g84) rfl rfl ?_
 simp only [g84, b84, zO, zN, zM, zL, zG, zP, zQ, zI, zA, zT, zF, zB, zC, zD, zE, zH, zJ, zK]
 simp +contextual -implicitDefEqProofs (maxSteps := 2000000) only [↓wP, wS, seval]
 refine WC_loopI 0 (fun (s : Nat × Array (Rq fr)) env σ' n' => n' = n ∧ env 0 = .ref id 0 N 2 ∧ env 2 = .int .i64 (hi : Int) ∧ env 3 = .int .i64 (first : Int) ∧ env 4 = .fn F [] ∧ env 10 = .int .i64 (s.1 : Int) ∧
  s.1 ≤ N ∧ s.2.size = N ∧ At σ' σ id s.2 ∧ siftDown ahQ hi first s.1 s.2 = siftDown ahQ hi first lo d) (fun s => hi - s.1) ?_ (lo, d) _ _ _ ?_
 ·intro ⟨r, e⟩ env σ1 n1 ⟨h1, h2, h3, h4, h5, h6, h7, h8, h9, h10⟩
  subst h1
  dsimp only at h6 h7 h8 h9 h10
  obtain ⟨t, ht⟩ : ∃ t, t = 2 * r := ⟨_, rfl⟩
  obtain ⟨c1, hc1⟩ : ∃ c1, c1 = 2 * r + 1 := ⟨_, rfl⟩
  obtain ⟨c2, hc2⟩ : ∃ c2, c2 = 2 * r + 2 := ⟨_, rfl⟩
  have w0 : IntKind.i64.wrap (2 * (r : Int)) = (t : Int) := by rw [wrap_i64] <;> omega
  have w1 : IntKind.i64.wrap ((t : Int) + 1) = (c1 : Int) := by rw [wrap_i64] <;> omega
  have w2 : IntKind.i64.wrap ((c1 : Int) + 1) = (c2 : Int) := by rw [wrap_i64] <;> omega
  rw [siftDown, show 2 * r + 1 + 1 = c2 by omega, show 2 * r + 1 = c1 by omega] at h10
  by_cases hc : hi ≤ c1
  ·have hc' : (hi : Int) ≤ (c1 : Int) := by omega
   rw [dif_pos hc] at h10
   simp +contextual -implicitDefEqProofs (maxSteps := 2000000) only [↓wP, wS, seval, h2, h3, h4, h5, h6, w0, w1, hc']
   refine hQ _ ?_
   rw [← h10]
   exact h9
  have hc' : ¬ (hi : Int) ≤ (c1 : Int) := by omega
  rw [dif_neg hc] at h10
  obtain ⟨p, hp⟩ : ∃ p, p = first + r := ⟨_, rfl⟩
  obtain ⟨p1, hp1⟩ : ∃ p1, p1 = first + c1 := ⟨_, rfl⟩
  obtain ⟨p2, hp2⟩ : ∃ p2, p2 = first + c2 := ⟨_, rfl⟩
  have w3 : IntKind.i64.wrap ((first : Int) + (r : Int)) = (p : Int) := by rw [wrap_i64] <;> omega
  have w4 : IntKind.i64.wrap ((first : Int) + (c1 : Int)) = (p1 : Int) := by rw [wrap_i64] <;> omega
  have w5 : IntKind.i64.wrap ((first : Int) + (c2 : Int)) = (p2 : Int) := by rw [wrap_i64] <;> omega
  have w6 : IntKind.i64.wrap ((p1 : Int) + 1) = (p2 : Int) := by rw [wrap_i64] <;> omega
  have l0 : p < N := by omega
  have l1 : p1 < N := by omega
  have x0 := rq_at (d := e) (i := p) (by omega)
  have x1 := rq_at (d := e) (i := p1) (by omega)
  have hat := h9.1.1
  have hFq := hF.at h9.1
  rw [← hp, ← hp1, ← hp2, show p1 + 1 = p2 by omega] at h10
  obtain ⟨u1, v1, v1', y1⟩ := rw_set_at (d := e) (i := p) (j := p1) (x := e[p1]!) (by omega)
  by_cases hs : c2 < hi
  ·have hs' : (c2 : Int) < (hi : Int) := by omega
   have l2 : p2 < N := by omega
   have x2 := rq_at (d := e) (i := p2) (by omega)
   obtain ⟨u2, v2, v2', y2⟩ := rw_set_at (d := e) (i := p) (j := p2) (x := e[p2]!) (by omega)
   by_cases k1 : cmpU (e[p1]!).id (e[p2]!).id < 0
   ·have a1 : ahQ e[p1]! e[p2]! = true := by rw [← cmpQ_lt]; simpa using k1
    rw [if_pos (by simp [hs, a1])] at h10
    by_cases k2 : cmpU (e[p]!).id (e[p2]!).id < 0
    ·have a2 : ahQ e[p]! e[p2]! = true := by rw [← cmpQ_lt]; simpa using k2
     rw [if_neg (by simp [a2]), dif_pos hs] at h10
     simp +contextual -implicitDefEqProofs (maxSteps := 2000000) only [↓wP, wS, seval, h2, h3, h4, h5, h6, w0, w1, w2, w3, w4, w5, w6, hc', hs', hat, l0, l1, l2, x0, x1, x2, y2, hFq, k1, k2]
     exact ⟨(c2, swp e p p2), by dsimp only; omega, rfl, by dsimp only; omega, by rw [swp_size, h8], h9.swp _ _, h10⟩
    ·have a2 : ahQ e[p]! e[p2]! = false := by rw [← cmpQ_lt]; simpa using k2
     rw [if_pos (by simp [a2])] at h10
     simp +contextual -implicitDefEqProofs (maxSteps := 2000000) only [↓wP, wS, seval, h2, h3, h4, h5, h6, w0, w1, w2, w3, w4, w5, w6, hc', hs', hat, l0, l1, l2, x0, x1, x2, hFq, k1, k2]
     refine hQ _ ?_
     rw [← h10]
     exact h9
   ·have a1 : ahQ e[p1]! e[p2]! = false := by rw [← cmpQ_lt]; simpa using k1
    rw [if_neg (by simp [a1])] at h10
    by_cases k2 : cmpU (e[p]!).id (e[p1]!).id < 0
    ·have a2 : ahQ e[p]! e[p1]! = true := by rw [← cmpQ_lt]; simpa using k2
     rw [if_neg (by simp [a2])] at h10
     simp +contextual -implicitDefEqProofs (maxSteps := 2000000) only [↓wP, wS, seval, h2, h3, h4, h5, h6, w0, w1, w2, w3, w4, w5, w6, hc', hs', hat, l0, l1, l2, x0, x1, x2, y1, hFq, k1, k2]
     exact ⟨(c1, swp e p p1), by dsimp only; omega, rfl, by dsimp only; omega, by rw [swp_size, h8], h9.swp _ _, h10⟩
    ·have a2 : ahQ e[p]! e[p1]! = false := by rw [← cmpQ_lt]; simpa using k2
     rw [if_pos (by simp [a2])] at h10
     simp +contextual -implicitDefEqProofs (maxSteps := 2000000) only [↓wP, wS, seval, h2, h3, h4, h5, h6, w0, w1, w2, w3, w4, w5, w6, hc', hs', hat, l0, l1, l2, x0, x1, x2, hFq, k1, k2]
     refine hQ _ ?_
     rw [← h10]
     exact h9
  ·have hs' : ¬ (c2 : Int) < (hi : Int) := by omega
   rw [if_neg (by simp [hs])] at h10
   by_cases k2 : cmpU (e[p]!).id (e[p1]!).id < 0
   ·have a2 : ahQ e[p]! e[p1]! = true := by rw [← cmpQ_lt]; simpa using k2
    rw [if_neg (by simp [a2])] at h10
    simp +contextual -implicitDefEqProofs (maxSteps := 2000000) only [↓wP, wS, seval, h2, h3, h4, h5, h6, w0, w1, w2, w3, w4, w5, w6, hc', hs', hat, l0, l1, x0, x1, y1, hFq, k2]
    exact ⟨(c1, swp e p p1), by dsimp only; omega, rfl, by dsimp only; omega, by rw [swp_size, h8], h9.swp _ _, h10⟩
   ·have a2 : ahQ e[p]! e[p1]! = false := by rw [← cmpQ_lt]; simpa using k2
    rw [if_pos (by simp [a2])] at h10
    simp +contextual -implicitDefEqProofs (maxSteps := 2000000) only [↓wP, wS, seval, h2, h3, h4, h5, h6, w0, w1, w2, w3, w4, w5, w6, hc', hs', hat, l0, l1, x0, x1, hFq, k2]
    refine hQ _ ?_
    rw [← h10]
    exact h9
 ·simp +contextual -implicitDefEqProofs (maxSteps := 2000000) only [↓wP, wS, seval]
  exact ⟨hlo, hN, At.refl hσ⟩
theorem At.trans {σ σ1 σ2 : Sto} {id : Nat} {d e : Array (Rq fr)} (h : At σ2 σ1 id e) (h' : At σ1 σ id d) : At σ2 σ id e := ⟨h.1, fun i hi => (h.2 i hi).trans (h'.2 i hi)⟩
theorem sift_size (hi first root : Nat) (d : Array (Rq fr)) : (siftDown ahQ hi first root d).size = d.size := by
 have key : ∀ (k root : Nat) (d : Array (Rq fr)), hi - root ≤ k → (siftDown ahQ hi first root d).size = d.size := by
  intro k
  induction k with
  | zero =>
    intro root d hk
    rw [siftDown]
    rw [dif_pos (by omega)]
  | succ k ih =>
    intro root d hk
    rw [siftDown]
    split
    ·rfl
    ·split
     ·split
      ·rfl
      ·split
       ·rw [ih _ _ (by omega), swp_size]
       ·rfl
     ·split
      ·rfl
      ·rw [ih _ _ (by omega), swp_size]
 exact key _ root d (Nat.le_refl _)
theorem raw72 (F : Nat) (hF : CmpQ fr F) (d : Array (Rq fr)) (N a b id n : Nat) (σ : Sto) (hN : d.size = N) (hab : a < b) (hb : b ≤ N) (hn : N < 1000000) (hσ : Hs fr σ id d) {Q : V → Sto → Nat → Prop}
 (hQ : ∀ σ', At σ' σ id (heapSort ahQ d a b) → Q .undef σ' n) :
 run T (.raw 72 [.ref id 0 N 2, .int .i64 (a : Int), .int .i64 (b : Int), .fn F []] σ n 0) (memQ Q) := by
 refine run_rawE (fn := g72) rfl rfl ?_
 simp only [g72, b72, zO, zN, zM, zL, zG, zP, zQ, zI, zA, zT, zF, zB, zC, zD, zE, zH, zJ, zK]
 obtain ⟨hi, hhi⟩ : ∃ hi, hi = b - a := ⟨_, rfl⟩
 have w1 : IntKind.i64.wrap ((b : Int) - (a : Int)) = (hi : Int) := by rw [wrap_i64] <;> omega
 have w2 : IntKind.i64.wrap ((hi : Int) - 1) = ((hi - 1 : Nat) : Int) := by rw [wrap_i64] <;> omega
 have q2 := bin_quo2 (hi - 1) (by omega)
 unfold heapSort at hQ
 rw [← hhi] at hQ
 simp +contextual -implicitDefEqProofs (maxSteps := 2000000) only [↓wP, wS, seval, w1, w2, q2]
 refine WC_cutB (fun env σ' n' => n' = n ∧ env 0 = .ref id 0 N 2 ∧ env 3 = .fn F [] ∧ env 8 = .int .i64 (a : Int) ∧ env 9 = .int .i64 0 ∧ env 10 = .int .i64 (hi : Int) ∧ At σ' σ id (heapBuild ahQ hi a ((hi - 1) / 2 + 1) d) ∧ (heapBuild ahQ hi a ((hi - 1) / 2 + 1) d).size = N) ?_ ?_
 ·refine WC_loopI 0 (fun (s : Nat × Array (Rq fr)) env σ' n' => n' = n ∧ env 0 = .ref id 0 N 2 ∧ env 3 = .fn F [] ∧ env 8 = .int .i64 (a : Int) ∧ env 9 = .int .i64 0 ∧ env 10 = .int .i64 (hi : Int) ∧ env 11 = .int .i64 ((s.1 : Int) - 1) ∧
   s.1 ≤ N ∧ s.2.size = N ∧ At σ' σ id s.2 ∧ heapBuild ahQ hi a s.1 s.2 = heapBuild ahQ hi a ((hi - 1) / 2 + 1) d) (fun s => s.1) ?_ ((hi - 1) / 2 + 1, d) _ _ _ ?_
  ·intro ⟨k, e⟩ env σ1 n1 ⟨h1, h2, h3, h4, h5, h6, h7, h8, h9, h10, h11⟩
   subst h1
   dsimp only at h7 h8 h9 h10 h11
   cases k with
   | zero =>
     have hk : ¬ ((0 : Int) ≤ ((0 : Nat) : Int) - 1) := by decide
     simp +contextual -implicitDefEqProofs (maxSteps := 2000000) only [↓wP, wS, seval, h2, h3, h4, h5, h6, h7, hk]
     rw [← h11]
     exact ⟨rfl, rfl, rfl, h2, h3, h4, h5, h6, h10, h9⟩
   | succ k =>
     rw [show ((k + 1 : Nat) : Int) - 1 = (k : Int) by omega] at h7
     have hk : (0 : Int) ≤ (k : Int) := by omega
     have wk : IntKind.i64.wrap ((k : Int) - 1) = (k : Int) - 1 := by rw [wrap_i64] <;> omega
     simp +contextual -implicitDefEqProofs (maxSteps := 2000000) only [↓wP, wS, seval, h2, h3, h4, h5, h6, h7, hk]
     refine stepW_raw (by decide) (raw84 F hF e N k hi a id n1 σ1 h9 (by omega) (by omega) hn h10.1 fun σ2 hat => ?_)
     simp +contextual -implicitDefEqProofs (maxSteps := 2000000) only [↓wP, wS, seval, h2, h3, h4, h5, h6, h7, wk]
     exact ⟨(k, siftDown ahQ hi a k e), by dsimp only; omega, rfl, by dsimp only; omega, by rw [sift_size, h9], hat.trans h10, h11⟩
  ·simp +contextual -implicitDefEqProofs (maxSteps := 2000000) only [↓wP, wS, seval]
   exact ⟨by congr 1; omega, by omega, hN, At.refl hσ⟩
 ·intro env σ' n' ⟨h1, h2, h3, h4, h5, h6, h7, h8⟩
  subst h1
  generalize heapBuild ahQ hi a ((hi - 1) / 2 + 1) d = d1 at *
  simp +contextual -implicitDefEqProofs (maxSteps := 2000000) only [↓wP, wS, seval, h2, h3, h4, h5, h6, w2]
  refine WC_loopI 0 (fun (s : Nat × Array (Rq fr)) env σ'' n'' => n'' = n' ∧ env 0 = .ref id 0 N 2 ∧ env 3 = .fn F [] ∧ env 8 = .int .i64 (a : Int) ∧ env 9 = .int .i64 0 ∧ env 12 = .int .i64 ((s.1 : Int) - 1) ∧
   s.1 ≤ hi ∧ s.2.size = N ∧ At σ'' σ id s.2 ∧ heapPop ahQ a s.1 s.2 = heapPop ahQ a hi d1) (fun s => s.1) ?_ (hi, d1) _ _ _ ?_
  ·clear h2 h3 h4 h5 h6
   intro ⟨k, e⟩ env σ1 n1 ⟨h1, h2, h3, h4, h5, h7', h8', h9, h10, h11⟩
   subst h1
   dsimp only at h7' h8' h9 h10 h11
   cases k with
   | zero =>
     have hk : ¬ ((0 : Int) ≤ ((0 : Nat) : Int) - 1) := by decide
     simp +contextual -implicitDefEqProofs (maxSteps := 2000000) only [↓wP, wS, seval, h2, h3, h4, h5, h7', hk]
     refine hQ _ ?_
     rw [← h11]
     exact h10
   | succ k =>
     rw [show ((k + 1 : Nat) : Int) - 1 = (k : Int) by omega] at h7'
     have hk : (0 : Int) ≤ (k : Int) := by omega
     have wk : IntKind.i64.wrap ((k : Int) - 1) = (k : Int) - 1 := by rw [wrap_i64] <;> omega
     obtain ⟨p, hp⟩ : ∃ p, p = a + k := ⟨_, rfl⟩
     have wp : IntKind.i64.wrap ((a : Int) + (k : Int)) = (p : Int) := by rw [wrap_i64] <;> omega
     have l0 : a < N := by omega
     have l1 : p < N := by omega
     have x0 := rq_at (d := e) (i := a) (by omega)
     have x1 := rq_at (d := e) (i := p) (by omega)
     obtain ⟨u1, v1, v1', y1⟩ := rw_set_at (d := e) (i := a) (j := p) (x := e[p]!) (by omega)
     have hat := h10.1.1
     have hFq := hF.at h10.1
     have h12 : heapPop ahQ a (k + 1) e = heapPop ahQ a k (siftDown ahQ k a 0 (swp e a p)) := by rw [hp]; rfl
     rw [h12] at h11
     simp +contextual -implicitDefEqProofs (maxSteps := 2000000) only [↓wP, wS, seval, h2, h3, h4, h5, h7', hk, wp, hat, l0, l1, x0, x1, y1]
     have hsw := h10.swp a p
     refine stepW_raw (by decide) (raw84 F hF (swp e a p) N 0 k a id n1 _ (by rw [swp_size, h9]) (by omega) (by omega) hn hsw.1 fun σ2 hat2 => ?_)
     simp +contextual -implicitDefEqProofs (maxSteps := 2000000) only [↓wP, wS, seval, h2, h3, h4, h5, h7', wk]
     exact ⟨(k, siftDown ahQ k a 0 (swp e a p)), by dsimp only; omega, rfl, by dsimp only; omega, by rw [sift_size, swp_size, h9], hat2.trans hsw, h11⟩
  ·simp +contextual -implicitDefEqProofs (maxSteps := 2000000) only [↓wP, wS, seval, h2, h3, h4, h5]
   exact ⟨by congr 1; omega, h8, h7⟩
theorem ss_go {d : Array (Rq fr)} {b i : Nat} (h : i < b) (hl : ahQ d[i]! d[i - 1]! = false) : scanSorted ahQ d b (i + 1) = scanSorted ahQ d b i := by
 conv => rhs; rw [scanSorted]
 rw [if_pos (by simp [h, hl])]
theorem ss_stop {d : Array (Rq fr)} {b i : Nat} (h : ¬ i < b ∨ ahQ d[i]! d[i - 1]! = true) : scanSorted ahQ d b i = i := by
 rw [scanSorted]
 rcases h with h | h <;> simp [h]
theorem shiftD_size : ∀ (j : Nat) (d : Array (Rq fr)), (shiftDown ahQ j d).size = d.size
 | 0, _ => rfl
 | j + 1, d => by
   rw [shiftDown]
   split
   ·rfl
   ·rw [shiftD_size j, swp_size]
theorem raw76 (F : Nat) (hF : CmpQ fr F) (d : Array (Rq fr)) (N a b id n : Nat) (σ : Sto) (hN : d.size = N) (hab : a < b) (hb : b ≤ N) (hn : N < 1000000) (hσ : Hs fr σ id d) {Q : V → Sto → Nat → Prop}
 (hQ : ∀ σ', At σ' σ id (partialInsertionSort ahQ d a b).1 → Q (.bool (partialInsertionSort ahQ d a b).2) σ' n) :
 run T (.raw 76 [.ref id 0 N 2, .int .i64 (a : Int), .int .i64 (b : Int), .fn F []] σ n 0) (memQ Q) := by
 refine run_rawE (fn := g76) rfl rfl ?_
 simp only [g76, b76, zO, zN, zM, zL, zG, zP, zQ, zI, zA, zT, zF, zB, zC, zD, zE, zH, zJ, zK]
 have w1 : IntKind.i64.wrap ((a : Int) + 1) = ((a + 1 : Nat) : Int) := by rw [wrap_i64] <;> omega
 have w2 : IntKind.i64.wrap ((b : Int) - (a : Int)) = ((b - a : Nat) : Int) := by rw [wrap_i64] <;> omega
 unfold partialInsertionSort at hQ
 simp +contextual -implicitDefEqProofs (maxSteps := 2000000) only [↓wP, wQ, wQ1, wQ2, wQ3, wR, boxE, partsOf, ↓reduceIte, n1w, n2w, n3w, n4w, n5w, n6w, reduceCtorEq, i1w, i2w, i3w, i4w, i5w, w1]
 refine WC_loopI 0 (fun (s : (Nat × Nat) × Array (Rq fr)) env σ' n' => n' = n ∧ env 0 = .ref id 0 N 2 ∧ env 1 = .int .i64 (a : Int) ∧ env 2 = .int .i64 (b : Int) ∧ env 3 = .fn F [] ∧ env 9 = .int .i64 (s.1.2 : Int) ∧ env 10 = .int .i64 ((5 - s.1.1 : Nat) : Int) ∧
  s.1.1 ≤ 5 ∧ a < s.1.2 ∧ s.1.2 ≤ b ∧ s.2.size = N ∧ At σ' σ id s.2 ∧ partialIns ahQ a b s.1.1 s.1.2 s.2 = partialIns ahQ a b 5 (a + 1) d) (fun s => s.1.1) ?_ ((5, a + 1), d) _ _ _ ?_
 ·intro ⟨⟨k, i⟩, e⟩ env σ1 n1 ⟨h1, h2, h3, h4, h5, h6, h7, h8, h9, h10, h11, h12, h13⟩
  subst h1
  dsimp only at h6 h7 h8 h9 h10 h11 h12 h13
  cases k with
  | zero =>
    have hk : ¬ (((5 - 0 : Nat) : Int) < 5) := by decide
    simp +contextual -implicitDefEqProofs (maxSteps := 2000000) only [↓wP, wQ, wQ1, wQ2, wQ3, wR, boxE, partsOf, ↓reduceIte, n1w, n2w, n3w, n4w, n5w, n6w, reduceCtorEq, i1w, i2w, i3w, i4w, i5w, h2, h3, h4, h5, h6, h7, hk]
    have hR : partialIns ahQ a b 5 (a + 1) d = (e, false) := h13.symm
    rw [hR] at hQ
    exact hQ _ h12
  | succ k =>
    have hk : ((5 - (k + 1) : Nat) : Int) < 5 := by omega
    have wk : IntKind.i64.wrap (((5 - (k + 1) : Nat) : Int) + 1) = ((5 - k : Nat) : Int) := by rw [wrap_i64] <;> omega
    rw [partialIns_succ] at h13
    generalize hjj : (5 - (k + 1) : Nat) = jj at *
    have hat := h12.1.1
    have hFq := hF.at h12.1
    simp +contextual -implicitDefEqProofs (maxSteps := 2000000) only [↓wP, wQ, wQ1, wQ2, wQ3, wR, boxE, partsOf, ↓reduceIte, n1w, n2w, n3w, n4w, n5w, n6w, reduceCtorEq, i1w, i2w, i3w, i4w, i5w, h2, h3, h4, h5, h6, h7, hk]
    refine WC_cutB (fun env σ' n' => σ' = σ1 ∧ n' = n1 ∧ env 0 = .ref id 0 N 2 ∧ env 1 = .int .i64 (a : Int) ∧ env 2 = .int .i64 (b : Int) ∧ env 3 = .fn F [] ∧ env 9 = .int .i64 ((scanSorted ahQ e b i : Nat) : Int) ∧ env 10 = .int .i64 (jj : Int) ∧ a < scanSorted ahQ e b i ∧ scanSorted ahQ e b i ≤ b) ?_ ?_
    ·refine WC_loopI 0 (fun (i' : Nat) env σ' n' => σ' = σ1 ∧ n' = n1 ∧ env 0 = .ref id 0 N 2 ∧ env 1 = .int .i64 (a : Int) ∧ env 2 = .int .i64 (b : Int) ∧ env 3 = .fn F [] ∧ env 9 = .int .i64 (i' : Int) ∧ env 10 = .int .i64 (jj : Int) ∧
      a < i' ∧ i' ≤ b ∧ scanSorted ahQ e b i' = scanSorted ahQ e b i) (fun i' => b - i') ?_ i _ _ _ ?_
     ·clear h2 h3 h4 h5 h6 h7
      intro i' env σ2 n2 ⟨k1, k2, k3, k4, k5, k6, k7, k8, k9, k10, k11⟩
      subst k1 k2
      by_cases hlt : i' < b
      ·have hlt' : (i' : Int) < (b : Int) := by omega
       have w3 : IntKind.i64.wrap ((i' : Int) - 1) = ((i' - 1 : Nat) : Int) := by rw [wrap_i64] <;> omega
       have w4 : IntKind.i64.wrap ((i' : Int) + 1) = ((i' + 1 : Nat) : Int) := by rw [wrap_i64] <;> omega
       have x1 := rq_at (d := e) (i := i') (by omega)
       have x2 := rq_at (d := e) (i := i' - 1) (by omega)
       have l1 : i' < N := by omega
       have l2 : i' - 1 < N := by omega
       by_cases hc : cmpU (e[i']!).id (e[i' - 1]!).id < 0
       ·have hah : ahQ e[i']! e[i' - 1]! = true := by rw [← cmpQ_lt]; simpa using hc
        have hst := ss_stop (d := e) (b := b) (i := i') (.inr hah)
        rw [hst] at k11
        rw [← k11]
        simp +contextual -implicitDefEqProofs (maxSteps := 2000000) only [↓wP, wQ, wQ1, wQ2, wQ3, wR, boxE, partsOf, ↓reduceIte, n1w, n2w, n3w, n4w, n5w, n6w, reduceCtorEq, i1w, i2w, i3w, i4w, i5w, exQ_exit, k3, k4, k5, k6, k7, k8, hlt', w3, w4, x1, x2, l1, l2, hat, hFq, hc]
        exact ⟨k9, k10⟩
       ·have hah : ahQ e[i']! e[i' - 1]! = false := by rw [← cmpQ_lt]; simpa using hc
        simp +contextual -implicitDefEqProofs (maxSteps := 2000000) only [↓wP, wQ, wQ1, wQ2, wQ3, wR, boxE, partsOf, ↓reduceIte, n1w, n2w, n3w, n4w, n5w, n6w, reduceCtorEq, i1w, i2w, i3w, i4w, i5w, exQ_exit, k3, k4, k5, k6, k7, k8, hlt', w3, w4, x1, x2, l1, l2, hat, hFq, hc]
        exact ⟨i' + 1, by omega, rfl, by omega, by omega, by rw [ss_go hlt hah]; exact k11⟩
      ·have hlt' : ¬ (i' : Int) < (b : Int) := by omega
       have hst := ss_stop (d := e) (b := b) (i := i') (.inl hlt)
       rw [hst] at k11
       rw [← k11]
       simp +contextual -implicitDefEqProofs (maxSteps := 2000000) only [↓wP, wQ, wQ1, wQ2, wQ3, wR, boxE, partsOf, ↓reduceIte, n1w, n2w, n3w, n4w, n5w, n6w, reduceCtorEq, i1w, i2w, i3w, i4w, i5w, exQ_exit, k3, k4, k5, k6, k7, k8, hlt']
       exact ⟨k9, k10⟩
     ·exact ⟨rfl, rfl, h2, h3, h4, h5, h6, h7, h9, h10, rfl⟩
    ·clear h2 h3 h4 h5 h6 h7
     intro env σ2 n2 ⟨k1, k2, h2, h3, h4, h5, h6, h7, g1, g2⟩
     subst k1 k2
     generalize scanSorted ahQ e b i = i2 at *
     by_cases e1 : i2 = b
     ·have e1' : ((i2 : Int) == (b : Int)) = true := by simp [e1]
      rw [if_pos e1] at h13
      simp +contextual -implicitDefEqProofs (maxSteps := 2000000) only [↓wP, wQ, wQ1, wQ2, wQ3, wR, boxE, partsOf, ↓reduceIte, n1w, n2w, n3w, n4w, n5w, n6w, reduceCtorEq, i1w, i2w, i3w, i4w, i5w, h2, h3, h4, h5, h6, h7, e1']
      have := hQ σ2
      rw [← h13] at this
      exact this h12
     have e1' : ((i2 : Int) == (b : Int)) = false := by simp; omega
     rw [if_neg e1] at h13
     by_cases e2 : b - a < 50
     ·have e2' : ((b - a : Nat) : Int) < 50 := by omega
      rw [if_pos e2] at h13
      simp +contextual -implicitDefEqProofs (maxSteps := 2000000) only [↓wP, wQ, wQ1, wQ2, wQ3, wR, boxE, partsOf, ↓reduceIte, n1w, n2w, n3w, n4w, n5w, n6w, reduceCtorEq, i1w, i2w, i3w, i4w, i5w, h2, h3, h4, h5, h6, h7, e1', w2, e2']
      have := hQ σ2
      rw [← h13] at this
      exact this h12
     have e2' : ¬ ((b - a : Nat) : Int) < 50 := by omega
     rw [if_neg e2] at h13
     have w3 : IntKind.i64.wrap ((i2 : Int) - 1) = ((i2 - 1 : Nat) : Int) := by rw [wrap_i64] <;> omega
     have w4 : IntKind.i64.wrap ((i2 : Int) + 1) = ((i2 + 1 : Nat) : Int) := by rw [wrap_i64] <;> omega
     have w5 : IntKind.i64.wrap ((i2 : Int) - (a : Int)) = ((i2 - a : Nat) : Int) := by rw [wrap_i64] <;> omega
     have w6 : IntKind.i64.wrap ((b : Int) - (i2 : Int)) = ((b - i2 : Nat) : Int) := by rw [wrap_i64] <;> omega
     have x1 := rq_at (d := e) (i := i2) (by omega)
     have x2 := rq_at (d := e) (i := i2 - 1) (by omega)
     obtain ⟨u, v, v', x3⟩ := rw_set_at (d := e) (i := i2) (j := i2 - 1) (x := e[i2 - 1]!) (by omega)
     have l1 : i2 < N := by omega
     have l2 : i2 - 1 < N := by omega
     have hsw := h12.swp i2 (i2 - 1)
     simp +contextual -implicitDefEqProofs (maxSteps := 2000000) only [↓wP, wQ, wQ1, wQ2, wQ3, wR, boxE, partsOf, ↓reduceIte, n1w, n2w, n3w, n4w, n5w, n6w, reduceCtorEq, i1w, i2w, i3w, i4w, i5w, h2, h3, h4, h5, h6, h7, e1', w2, e2', w3, w5, x1, x2, x3, l1, l2, hat]
     generalize (upd (upd σ2 id (some (.row 2 ((rq' e).set i2 (.agg [.int .u64 (e[i2 - 1]!).id, .ref (e[i2 - 1]!).k 0 (e[i2 - 1]!).n 1]))))) id
      (some (.row 2 (((rq' e).set i2 (.agg [.int .u64 (e[i2 - 1]!).id, .ref (e[i2 - 1]!).k 0 (e[i2 - 1]!).n 1])).set (i2 - 1) (.agg [.int .u64 (e[i2]!).id, .ref (e[i2]!).k 0 (e[i2]!).n 1]))))) = σ3 at hsw
     have hsz : (swp e i2 (i2 - 1)).size = N := by rw [swp_size, h11]
     generalize swp e i2 (i2 - 1) = g0 at *
     clear x1 x2 x3 hat h12
     refine condC_cut (fun env σ' n' => n' = n2 ∧ env 0 = .ref id 0 N 2 ∧ env 1 = .int .i64 (a : Int) ∧ env 2 = .int .i64 (b : Int) ∧ env 3 = .fn F [] ∧ env 9 = .int .i64 (i2 : Int) ∧ env 10 = .int .i64 (jj : Int) ∧ At σ' σ id (fixDown ahQ a i2 g0)) ?_ ?_ ?_
     ·intro hx
      have hx' : 2 ≤ i2 - a := by have := of_decide_eq_true hx; omega
      have hfd : fixDown ahQ a i2 g0 = shiftDown ahQ (i2 - 1) g0 := by unfold fixDown; rw [if_pos hx']
      rw [hfd]
      simp +contextual -implicitDefEqProofs (maxSteps := 2000000) only [↓wP, wQ, wQ1, wQ2, wQ3, wR, boxE, partsOf, ↓reduceIte, n1w, n2w, n3w, n4w, n5w, n6w, reduceCtorEq, i1w, i2w, i3w, i4w, i5w, h2, h3, h4, h5, h6, h7, w3]
      refine WC_cutB (fun env σ' n' => n' = n2 ∧ env 0 = .ref id 0 N 2 ∧ env 1 = .int .i64 (a : Int) ∧ env 2 = .int .i64 (b : Int) ∧ env 3 = .fn F [] ∧ env 9 = .int .i64 (i2 : Int) ∧ env 10 = .int .i64 (jj : Int) ∧ At σ' σ id (shiftDown ahQ (i2 - 1) g0)) ?_ ?_
      ·refine WC_loopI 0 (fun (s : Nat × Array (Rq fr)) env σ' n' => n' = n2 ∧ env 0 = .ref id 0 N 2 ∧ env 1 = .int .i64 (a : Int) ∧ env 2 = .int .i64 (b : Int) ∧ env 3 = .fn F [] ∧ env 9 = .int .i64 (i2 : Int) ∧ env 10 = .int .i64 (jj : Int) ∧ env 11 = .int .i64 (s.1 : Int) ∧
        s.1 < N ∧ s.2.size = N ∧ At σ' σ id s.2 ∧ shiftDown ahQ s.1 s.2 = shiftDown ahQ (i2 - 1) g0) (fun s => s.1) ?_ (i2 - 1, g0) _ _ _ ?_
       ·clear h2 h3 h4 h5 h6 h7 hsw hx
        intro ⟨j, g⟩ env σ4 n4 ⟨k1, h2, h3, h4, h5, h6, h7, k2, k3, k4, k5, k6⟩
        subst k1
        dsimp only at k2 k3 k4 k5 k6
        have hat := k5.1.1
        have hFq := hF.at k5.1
        cases j with
        | zero =>
          have hj : ¬ ((1 : Int) ≤ ((0 : Nat) : Int)) := by decide
          simp +contextual -implicitDefEqProofs (maxSteps := 2000000) only [↓wP, wQ, wQ1, wQ2, wQ3, wR, boxE, partsOf, ↓reduceIte, n1w, n2w, n3w, n4w, n5w, n6w, reduceCtorEq, i1w, i2w, i3w, i4w, i5w, h2, h3, h4, h5, h6, h7, k2, hj]
          rw [← k6]
          exact ⟨rfl, rfl, rfl, h2, h3, h4, h5, h6, h7, k5⟩
        | succ j =>
          have hj : (1 : Int) ≤ ((j + 1 : Nat) : Int) := by omega
          have wj : IntKind.i64.wrap (((j + 1 : Nat) : Int) - 1) = (j : Int) := by rw [wrap_i64] <;> omega
          have x1 := rq_at (d := g) (i := j + 1) (by omega)
          have x2 := rq_at (d := g) (i := j) (by omega)
          obtain ⟨u, v, v', x3⟩ := rw_set_at (d := g) (i := j + 1) (j := j) (x := g[j]!) (by omega)
          have m1 : j + 1 < N := by omega
          have m2 : j < N := by omega
          rw [shiftDown] at k6
          by_cases hc : cmpU (g[j + 1]!).id (g[j]!).id < 0
          ·have hah : ahQ g[j + 1]! g[j]! = true := by rw [← cmpQ_lt]; simpa using hc
           rw [if_neg (by simp [hah])] at k6
           simp +contextual -implicitDefEqProofs (maxSteps := 2000000) only [↓wP, wQ, wQ1, wQ2, wQ3, wR, boxE, partsOf, ↓reduceIte, n1w, n2w, n3w, n4w, n5w, n6w, reduceCtorEq, i1w, i2w, i3w, i4w, i5w, h2, h3, h4, h5, h6, h7, k2, hj, wj, x1, x2, x3, m1, m2, hat, hFq, hc]
           exact ⟨(j, swp g (j + 1) j), by dsimp only; omega, rfl, by dsimp only; omega, by rw [swp_size, k4], k5.swp _ _, k6⟩
          ·have hah : ahQ g[j + 1]! g[j]! = false := by rw [← cmpQ_lt]; simpa using hc
           rw [if_pos (by simp [hah])] at k6
           simp +contextual -implicitDefEqProofs (maxSteps := 2000000) only [↓wP, wQ, wQ1, wQ2, wQ3, wR, boxE, partsOf, ↓reduceIte, n1w, n2w, n3w, n4w, n5w, n6w, reduceCtorEq, i1w, i2w, i3w, i4w, i5w, h2, h3, h4, h5, h6, h7, k2, hj, wj, x1, x2, m1, m2, hat, hFq, hc]
           rw [← k6]
           exact ⟨rfl, rfl, rfl, h2, h3, h4, h5, h6, h7, k5⟩
       ·simp +contextual -implicitDefEqProofs (maxSteps := 2000000) only [↓wP, wQ, wQ1, wQ2, wQ3, wR, boxE, partsOf, ↓reduceIte, n1w, n2w, n3w, n4w, n5w, n6w, reduceCtorEq, i1w, i2w, i3w, i4w, i5w, h2, h3, h4, h5, h6, h7]
        exact ⟨l2, hsz, hsw⟩
      ·intro env σ' n' hh
       exact ⟨rfl, hh⟩
     ·intro hx
      have hx' : ¬ 2 ≤ i2 - a := by have := of_decide_eq_false hx; omega
      have hfd : fixDown ahQ a i2 g0 = g0 := by unfold fixDown; rw [if_neg hx']
      rw [hfd]
      simp +contextual -implicitDefEqProofs (maxSteps := 2000000) only [↓wP, wQ, wQ1, wQ2, wQ3, wR, boxE, partsOf, ↓reduceIte, n1w, n2w, n3w, n4w, n5w, n6w, reduceCtorEq, i1w, i2w, i3w, i4w, i5w, h2, h3, h4, h5, h6, h7]
      exact hsw
     ·clear h2 h3 h4 h5 h6 h7 hsw
      intro env σ4 n4 ⟨k1, h2, h3, h4, h5, h6, h7, hsw⟩
      subst k1
      have hsz2 : (fixDown ahQ a i2 g0).size = N := by
       unfold fixDown
       split
       ·rw [shiftD_size, hsz]
       ·exact hsz
      generalize fixDown ahQ a i2 g0 = g1 at *
      clear hsz
      simp +contextual -implicitDefEqProofs (maxSteps := 2000000) only [↓wP, wQ, wQ1, wQ2, wQ3, wR, boxE, partsOf, ↓reduceIte, n1w, n2w, n3w, n4w, n5w, n6w, reduceCtorEq, i1w, i2w, i3w, i4w, i5w, h2, h3, h4, h5, h6, h7, w6]
      refine condC_cut (fun env σ' n' => n' = n4 ∧ env 0 = .ref id 0 N 2 ∧ env 1 = .int .i64 (a : Int) ∧ env 2 = .int .i64 (b : Int) ∧ env 3 = .fn F [] ∧ env 9 = .int .i64 (i2 : Int) ∧ env 10 = .int .i64 (jj : Int) ∧ At σ' σ id (fixUp ahQ b i2 g1) ∧ (fixUp ahQ b i2 g1).size = N) ?_ ?_ ?_
      ·intro hx
       have hx' : 2 ≤ b - i2 := by have := of_decide_eq_true hx; omega
       have hfd : fixUp ahQ b i2 g1 = shiftUp ahQ b (i2 + 1) g1 := by unfold fixUp; rw [if_pos hx']
       rw [hfd]
       simp +contextual -implicitDefEqProofs (maxSteps := 2000000) only [↓wP, wQ, wQ1, wQ2, wQ3, wR, boxE, partsOf, ↓reduceIte, n1w, n2w, n3w, n4w, n5w, n6w, reduceCtorEq, i1w, i2w, i3w, i4w, i5w, h2, h3, h4, h5, h6, h7, w4]
       refine WC_cutB (fun env σ' n' => n' = n4 ∧ env 0 = .ref id 0 N 2 ∧ env 1 = .int .i64 (a : Int) ∧ env 2 = .int .i64 (b : Int) ∧ env 3 = .fn F [] ∧ env 9 = .int .i64 (i2 : Int) ∧ env 10 = .int .i64 (jj : Int) ∧ At σ' σ id (shiftUp ahQ b (i2 + 1) g1) ∧ (shiftUp ahQ b (i2 + 1) g1).size = N) ?_ ?_
       ·refine WC_loopI 0 (fun (s : Nat × Array (Rq fr)) env σ' n' => n' = n4 ∧ env 0 = .ref id 0 N 2 ∧ env 1 = .int .i64 (a : Int) ∧ env 2 = .int .i64 (b : Int) ∧ env 3 = .fn F [] ∧ env 9 = .int .i64 (i2 : Int) ∧ env 10 = .int .i64 (jj : Int) ∧ env 12 = .int .i64 (s.1 : Int) ∧
         1 ≤ s.1 ∧ s.1 ≤ b ∧ s.2.size = N ∧ At σ' σ id s.2 ∧ shiftUp ahQ b s.1 s.2 = shiftUp ahQ b (i2 + 1) g1) (fun s => b - s.1) ?_ (i2 + 1, g1) _ _ _ ?_
        ·clear h2 h3 h4 h5 h6 h7 hsw hx
         intro ⟨j, g⟩ env σ5 n5 ⟨k1, h2, h3, h4, h5, h6, h7, k2, k2', k3, k4, k5, k6⟩
         subst k1
         dsimp only at k2 k2' k3 k4 k5 k6
         have hat := k5.1.1
         have hFq := hF.at k5.1
         rw [shiftUp] at k6
         by_cases hlt : j < b
         ·rw [if_pos hlt] at k6
          have hj : (j : Int) < (b : Int) := by omega
          have wj : IntKind.i64.wrap ((j : Int) - 1) = ((j - 1 : Nat) : Int) := by rw [wrap_i64] <;> omega
          have wj2 : IntKind.i64.wrap ((j : Int) + 1) = ((j + 1 : Nat) : Int) := by rw [wrap_i64] <;> omega
          have x1 := rq_at (d := g) (i := j) (by omega)
          have x2 := rq_at (d := g) (i := j - 1) (by omega)
          obtain ⟨u, v, v', x3⟩ := rw_set_at (d := g) (i := j) (j := j - 1) (x := g[j - 1]!) (by omega)
          have m1 : j < N := by omega
          have m2 : j - 1 < N := by omega
          by_cases hc : cmpU (g[j]!).id (g[j - 1]!).id < 0
          ·have hah : ahQ g[j]! g[j - 1]! = true := by rw [← cmpQ_lt]; simpa using hc
           rw [if_neg (by simp [hah])] at k6
           simp +contextual -implicitDefEqProofs (maxSteps := 2000000) only [↓wP, wQ, wQ1, wQ2, wQ3, wR, boxE, partsOf, ↓reduceIte, n1w, n2w, n3w, n4w, n5w, n6w, reduceCtorEq, i1w, i2w, i3w, i4w, i5w, h2, h3, h4, h5, h6, h7, k2, hj, wj, wj2, x1, x2, x3, m1, m2, hat, hFq, hc]
           exact ⟨(j + 1, swp g j (j - 1)), by dsimp only; omega, rfl, by dsimp only; omega, by dsimp only; omega, by rw [swp_size, k4], k5.swp _ _, k6⟩
          ·have hah : ahQ g[j]! g[j - 1]! = false := by rw [← cmpQ_lt]; simpa using hc
           rw [if_pos (by simp [hah])] at k6
           simp +contextual -implicitDefEqProofs (maxSteps := 2000000) only [↓wP, wQ, wQ1, wQ2, wQ3, wR, boxE, partsOf, ↓reduceIte, n1w, n2w, n3w, n4w, n5w, n6w, reduceCtorEq, i1w, i2w, i3w, i4w, i5w, h2, h3, h4, h5, h6, h7, k2, hj, wj, wj2, x1, x2, m1, m2, hat, hFq, hc]
           rw [← k6]
           exact ⟨rfl, rfl, rfl, h2, h3, h4, h5, h6, h7, k5, k4⟩
         ·rw [if_neg hlt] at k6
          have hj : ¬ (j : Int) < (b : Int) := by omega
          simp +contextual -implicitDefEqProofs (maxSteps := 2000000) only [↓wP, wQ, wQ1, wQ2, wQ3, wR, boxE, partsOf, ↓reduceIte, n1w, n2w, n3w, n4w, n5w, n6w, reduceCtorEq, i1w, i2w, i3w, i4w, i5w, h2, h3, h4, h5, h6, h7, k2, hj]
          rw [← k6]
          exact ⟨rfl, rfl, rfl, h2, h3, h4, h5, h6, h7, k5, k4⟩
        ·simp +contextual -implicitDefEqProofs (maxSteps := 2000000) only [↓wP, wQ, wQ1, wQ2, wQ3, wR, boxE, partsOf, ↓reduceIte, n1w, n2w, n3w, n4w, n5w, n6w, reduceCtorEq, i1w, i2w, i3w, i4w, i5w, h2, h3, h4, h5, h6, h7]
         exact ⟨by omega, hsz2, hsw⟩
       ·intro env σ' n' hh
        exact ⟨rfl, hh⟩
      ·intro hx
       have hx' : ¬ 2 ≤ b - i2 := by have := of_decide_eq_false hx; omega
       have hfd : fixUp ahQ b i2 g1 = g1 := by unfold fixUp; rw [if_neg hx']
       rw [hfd]
       simp +contextual -implicitDefEqProofs (maxSteps := 2000000) only [↓wP, wQ, wQ1, wQ2, wQ3, wR, boxE, partsOf, ↓reduceIte, n1w, n2w, n3w, n4w, n5w, n6w, reduceCtorEq, i1w, i2w, i3w, i4w, i5w, h2, h3, h4, h5, h6, h7]
       exact ⟨hsw, hsz2⟩
      ·clear h2 h3 h4 h5 h6 h7 hsw
       intro env σ5 n5 ⟨k1, h2, h3, h4, h5, h6, h7, hsw, hsz3⟩
       subst k1
       simp +contextual -implicitDefEqProofs (maxSteps := 2000000) only [↓wP, wQ, wQ1, wQ2, wQ3, wR, boxE, partsOf, ↓reduceIte, n1w, n2w, n3w, n4w, n5w, n6w, reduceCtorEq, i1w, i2w, i3w, i4w, i5w, h2, h3, h4, h5, h6, h7, wk]
       exact ⟨((k, i2), fixUp ahQ b i2 g1), by dsimp only; omega, rfl, rfl, by dsimp only; omega, by dsimp only; omega, by dsimp only; omega, hsz3, hsw, h13⟩
 ·simp +contextual -implicitDefEqProofs (maxSteps := 2000000) only [↓wP, wQ, wQ1, wQ2, wQ3, wR, boxE, partsOf, ↓reduceIte, n1w, n2w, n3w, n4w, n5w, n6w, reduceCtorEq, i1w, i2w, i3w, i4w, i5w]
  exact ⟨rfl, by omega, by omega, hN, At.refl hσ⟩
end Go.Q.SU
end

section
/- A sort of few. -/
namespace Go.Q.SU
open Go.Q Go.Sort
variable {fr : Fr} [Inhabited (Rq fr)]
theorem raw112N (F : Nat) (hF : CmpQ fr F) {d : Array (Rq fr)} {N : Nat} (hN : d.size = N) (a b id n : Nat) (σ : Sto) (hab : a ≤ b) (hb : b ≤ N) (hn : N < 1000000) (hσ : Hs fr σ id d) {Q : V → Sto → Nat → Prop}
 (hQ : ∀ σ', At σ' σ id (insertionSort ahQ d a b) → Q .undef σ' n) :
 run T (.raw 71 [.ref id 0 N 2, .int .i64 (a : Int), .int .i64 (b : Int), .fn F []] σ n 0) (memQ Q) := by subst hN; exact raw71 F hF d a b id n σ hab hb hn hσ hQ
theorem raw114N (F : Nat) (hF : CmpQ fr F) {d : Array (Rq fr)} {N : Nat} (hN : d.size = N) (a b id n : Nat) (σ : Sto) (h8 : 8 ≤ b - a) (h60 : b - a < 130) (hb : b ≤ N) (hn : N < 1000000) (hid : id < n) (hσ : Hs fr σ id d) {Q : V → Sto → Nat → Prop}
 (hQ : ∀ σ' d' n', n ≤ n' → Hs fr σ' id d' → (∀ i, i ≠ id → i < n → σ' i = σ i) → PermIn a b d d' → Q .undef σ' n') :
 run T (.raw 73 [.ref id 0 N 2, .int .i64 (a : Int), .int .i64 (b : Int), .fn F []] σ n 0) (memQ Q) := by subst hN; exact raw73 F hF d a b id n σ h8 h60 hb hn hid hσ hQ
theorem raw116N (F : Nat) (hF : CmpQ fr F) {d : Array (Rq fr)} {N : Nat} (hN : d.size = N) (a b id n : Nat) (σ : Sto) (hab : a < b) (hb : b ≤ N) (hn : N < 1000000) (hσ : Hs fr σ id d) {Q : V → Sto → Nat → Prop}
 (hQ : ∀ σ' d', At σ' σ id d' → PermIn a b d d' → Q .undef σ' n) :
 run T (.raw 75 [.ref id 0 N 2, .int .i64 (a : Int), .int .i64 (b : Int), .fn F []] σ n 0) (memQ Q) := by subst hN; exact raw75 F hF d a b id n σ hab hb hn hσ hQ
theorem raw118N (F : Nat) (hF : CmpQ fr F) {d : Array (Rq fr)} {N : Nat} (hN : d.size = N) (a b p id n : Nat) (σ : Sto) (hap : a ≤ p) (hpb : p < b) (hb : b ≤ N) (hn : N < 1000000) (hσ : Hs fr σ id d) {Q : V → Sto → Nat → Prop}
 (hQ : ∀ σ', At σ' σ id (partitionEqual ahQ d a b p).2 → Q (.int .i64 ((partitionEqual ahQ d a b p).1 : Int)) σ' n) :
 run T (.raw 77 [.ref id 0 N 2, .int .i64 (a : Int), .int .i64 (b : Int), .int .i64 (p : Int), .fn F []] σ n 0) (memQ Q) := by subst hN; exact raw77 F hF d a b p id n σ hap hpb hb hn hσ hQ
theorem raw119N (F : Nat) (hF : CmpQ fr F) {d : Array (Rq fr)} {N : Nat} (hN : d.size = N) (a b p id n : Nat) (σ : Sto) (hap : a ≤ p) (hpb : p < b) (hb : b ≤ N) (hn : N < 1000000) (hσ : Hs fr σ id d) {Q : V → Sto → Nat → Prop}
 (hQ : ∀ σ', At σ' σ id (partition ahQ d a b p).2.2 → Q (.tup [.int .i64 ((partition ahQ d a b p).1 : Int), .bool (partition ahQ d a b p).2.1]) σ' n) :
 run T (.raw 78 [.ref id 0 N 2, .int .i64 (a : Int), .int .i64 (b : Int), .int .i64 (p : Int), .fn F []] σ n 0) (memQ Q) := by subst hN; exact raw78 F hF d a b p id n σ hap hpb hb hn hσ hQ
theorem frz_row {d : Array (Rq fr)} {N id : Nat} {σ : Sto} (hN : d.size = N) (h : Hs fr σ id d) (k : Nat) : frz σ (k + 4) (.ref id 0 N 2) = some (.sl 2 (rw' (d.map toR))) := by
 have hag : ∀ i, i < fr.i → σ i = fr.σ i := by rw [← h.2.1]; exact h.2.2
 have hl : N = (rq' d).length := by rw [rq_len, hN]
 have e1 : (rq' d).mapM (elemM (frz σ (k + 3))) = some (rw' (d.map toR)) := by
  unfold rq' rw'
  rw [Array.toList_map]
  induction d.toList with
  | nil => rfl
  | cons x l ih =>
    rw [List.map_cons, List.map_cons, List.map_cons, List.mapM_cons, ih]
    simp only [rqV, elemM_agg, List.mapM_cons, List.mapM_nil, frz_int, x.frz hag (k + 1)]
    rfl
 rw [frz_rf, h.1, elemsO_row, if_pos (by omega), List.drop_zero, hl, List.take_length, Option.bind_some, e1]
 rfl
theorem f74 (F : Nat) (hF : CmpQ fr F) (d : Array (Rq fr)) (a b id N : Nat) (σ : Sto) (n lk : Nat) (hN : d.size = N) (hσ : Hs fr σ id d) (hab : a < b) (hb : b ≤ N) (hn : N < 1000000) :
 ∃ (p : Nat) (h : Int), a ≤ p ∧ p < b ∧ (h = 0 ∨ h = 1 ∨ h = 2) ∧ callE T true 74 [.ref id 0 N 2, .int .i64 (a : Int), .int .i64 (b : Int), .fn F []] σ n lk = some (.tup [.int .i64 (p : Int), .int .i64 h], σ, n) := by
 obtain ⟨p, h, h1, h2, h3, h4⟩ := r74 F hF.1 (d.map toR) a b hab (by simp; omega) (by simp; omega)
 refine ⟨p, h, h1, h2, h3, ?_⟩
 rw [callE_eq (by decide)]
 have e : [V.ref id 0 N 2, .int .i64 (a : Int), .int .i64 (b : Int), .fn F []].mapM (frz σ 12) = some [.sl 2 (rw' (d.map toR)), .int .i64 (a : Int), .int .i64 (b : Int), .fn F []] := by
  simp only [List.mapM_cons, List.mapM_nil, frz_row hN hσ 8, frz_int, frz_fn]
  rfl
 rw [e, callR_some, h4, retE_some, backE_flat rfl]
 rfl
def Pdq (L N a0 b0 : Nat) (d : Array (Rq fr)) (a b lim : Nat) (e : Array (Rq fr)) : Prop :=
 a ≤ b ∧ b ≤ N ∧ b - a ≤ L ∧ b - a < 130 ∧ lim < 1000 ∧ e.size = N ∧ Below ahQ a b e ∧
 ∀ R, PermIn a b e R → SortedIn ahQ a b R → PermIn a0 b0 d R ∧ SortedIn ahQ a0 b0 R
theorem Pdq.perm {L N a0 b0 a b lim : Nat} {d e e' : Array (Rq fr)} (h : Pdq L N a0 b0 d a b lim e) (hp : PermIn a b e e') : Pdq L N a0 b0 d a b lim e' := by
 obtain ⟨h1, h2, h3, h4, h6, h7, h8, h9⟩ := h
 exact ⟨h1, h2, h3, h4, h6, by rw [hp.1, h7], h8.perm (by omega) hp, fun R hR hs => h9 R (permIn_trans _ _ _ _ _ hp hR) hs⟩
theorem bin_quo8 (m : Nat) (h : m < 9223372036854775808) : binV .quo (.int .i64 (m : Int)) (.int .i64 8) = some (.int .i64 ((m / 8 : Nat) : Int)) := by
 rw [bin_quo .i64 (m : Int) 8 (by decide)]
 have e : (m : Int).tdiv 8 = ((m / 8 : Nat) : Int) := rfl
 rw [e, wrap_nat (by omega)]
def Sorts (F L : Nat) : Prop := ∀ (d : Array (Rq fr)) (a b lim id n N : Nat) (σ : Sto), b - a < L → a ≤ b → b - a < 130 → b ≤ N → N < 1000000 → lim < 1000 → id < n → d.size = N → Hs fr σ id d →
 Below ahQ a b d → ∀ {Q : V → Sto → Nat → Prop}, (∀ σ' d' n', n ≤ n' → Hs fr σ' id d' → (∀ i, i ≠ id → i < n → σ' i = σ i) → PermIn a b d d' → SortedIn ahQ a b d' → Q .undef σ' n') →
 run T (.raw 62 [.ref id 0 N 2, .int .i64 (a : Int), .int .i64 (b : Int), .int .i64 (lim : Int), .fn F []] σ n 0) (memQ Q)
theorem raw62_step (F : Nat) (hF : CmpQ fr F) (L : Nat) (ih : Sorts (fr := fr) F L) : Sorts (fr := fr) F (L + 1) := by
 intro d a b lim id n N σ hL hab h50 hb hn hlim hid hN hσ hB Q hQ
 refine run_rawE (fn := g62) rfl rfl ?_
 simp only [g62, b62, zO, zN, zM, zL, zG, zP, zQ, zI, zA, zT, zF, zB, zC, zD, zE, zH, zJ, zK]
 simp +contextual -implicitDefEqProofs (maxSteps := 2000000) only [↓wP, wS, seval]
 refine WC_loopI 0 (fun (s : (Nat × Nat) × Nat) env σ' n' => n ≤ n' ∧ env 0 = .ref id 0 N 2 ∧ env 1 = .int .i64 (s.1.1 : Int) ∧ env 2 = .int .i64 (s.1.2 : Int) ∧ env 3 = .int .i64 (s.2 : Int) ∧ env 4 = .fn F [] ∧
  (∃ wb, env 10 = .bool wb) ∧ (∃ wp, env 11 = .bool wp) ∧ (∀ i, i ≠ id → i < n → σ' i = σ i) ∧ ∃ e, Pdq L N a b d s.1.1 s.1.2 s.2 e ∧ Hs fr σ' id e) (fun s => s.1.2 - s.1.1) ?_ ((a, b), lim) _ _ _ ?_
 ·intro ⟨⟨a', b'⟩, lim'⟩ env σ1 n1 ⟨h1, h2, h3, h4, h5, h6, ⟨wb, h7⟩, ⟨wp, h8⟩, hf, e, hp, h9⟩
  dsimp only at h3 h4 h5 hp
  obtain ⟨p1, p2, p3, p4, p6, p7, p8, p9⟩ := hp
  have hp : Pdq L N a b d a' b' lim' e := ⟨p1, p2, p3, p4, p6, p7, p8, p9⟩
  have w1 : IntKind.i64.wrap ((b' : Int) - (a' : Int)) = ((b' - a' : Nat) : Int) := by rw [wrap_i64] <;> omega
  by_cases hle : b' - a' ≤ 12
  ·have hle' : ((b' - a' : Nat) : Int) ≤ 12 := by omega
   simp +contextual -implicitDefEqProofs (maxSteps := 2000000) only [↓wP, wS, seval, h2, h3, h4, h5, h6, w1, hle']
   refine stepW_raw (by decide) (raw112N F hF p7 a' b' id n1 σ1 p1 p2 hn h9 fun σ2 hat => ?_)
   simp +contextual -implicitDefEqProofs (maxSteps := 2000000) only [↓wP, wS, seval]
   have hs := insertionSort_holds (lt := ahQ) swoQ e a' b' p1 (by omega)
   have hR := p9 _ hs.1 hs.2
   exact hQ _ _ _ h1 hat.1 (fun i hi hin => by rw [hat.2 i hi, hf i hi hin]) hR.1 hR.2
  ·have hle' : ¬ ((b' - a' : Nat) : Int) ≤ 12 := by omega
   by_cases hl00 : lim' = 0
   ·have hl0 : ((lim' : Int) == 0) = true := by simp [hl00]
    simp +contextual -implicitDefEqProofs (maxSteps := 2000000) only [↓wP, wS, seval, h2, h3, h4, h5, h6, h7, h8, w1, hle', hl0]
    refine stepW_raw (by decide) (raw72 F hF e N a' b' id n1 σ1 p7 (by omega) p2 hn h9 fun σ2 hat => ?_)
    simp +contextual -implicitDefEqProofs (maxSteps := 2000000) only [↓wP, wS, seval]
    have hs := heapSort_holds (lt := ahQ) swoQ e a' b' p1 (by omega)
    have hR := p9 _ hs.1 hs.2
    exact hQ _ _ _ h1 hat.1 (fun i hi hin => by rw [hat.2 i hi, hf i hi hin]) hR.1 hR.2
   have hl0 : ((lim' : Int) == 0) = false := by simp; omega
   simp +contextual -implicitDefEqProofs (maxSteps := 2000000) only [↓wP, wS, seval, h2, h3, h4, h5, h6, h7, h8, w1, hle', hl0]
   refine condC_cut (fun env' σ' n' => ∃ lim1 e1, n1 ≤ n' ∧ env' 0 = .ref id 0 N 2 ∧ env' 1 = .int .i64 (a' : Int) ∧ env' 2 = .int .i64 (b' : Int) ∧ env' 3 = .int .i64 ((lim1 : Nat) : Int) ∧ env' 4 = .fn F [] ∧
    env' 10 = .bool wb ∧ env' 11 = .bool wp ∧ env' 12 = .int .i64 ((b' - a' : Nat) : Int) ∧ lim' ≤ lim1 + 1 ∧ lim1 ≤ lim' ∧ Hs fr σ' id e1 ∧ PermIn a' b' e e1 ∧ (∀ i, i ≠ id → i < n → σ' i = σ i)) ?_ ?_ ?_
   ·intro hx
    have wl : IntKind.i64.wrap ((lim' : Int) - 1) = ((lim' - 1 : Nat) : Int) := by rw [wrap_i64] <;> omega
    simp +contextual -implicitDefEqProofs (maxSteps := 2000000) only [↓wP, wS, seval, h2, h3, h4, h5, h6, h7, h8]
    refine stepW_raw (by decide) (raw114N F hF p7 a' b' id n1 σ1 (by omega) (by omega) p2 hn (by omega) h9 fun σ2 d2 n2 g1 g2 g3 g4 => ?_)
    simp +contextual -implicitDefEqProofs (maxSteps := 2000000) only [↓wP, wS, seval, h2, h3, h4, h5, h6, h7, h8, wl]
    refine ⟨lim' - 1, d2, ?_⟩
    have : ∀ i, i ≠ id → i < n → σ2 i = σ i := fun i hi hin => by rw [g3 i hi (by omega), hf i hi hin]
    repeat' (first | assumption | rfl | omega | apply And.intro)
   ·intro hx
    simp +contextual -implicitDefEqProofs (maxSteps := 2000000) only [↓wP, wS, seval, h2, h3, h4, h5, h6, h7, h8]
    refine ⟨lim', e, ?_⟩
    have := permIn_refl e a' b'
    repeat' (first | assumption | rfl | omega | apply And.intro)
   ·clear h2 h3 h4 h5 h6 h7 h8 hf h9
    intro env σ1 n2 ⟨lim1, e1, hn1, h2, h3, h4, h5, h6, h7, h8, hlen, hl1, hl2, h9, hpm, hf⟩
    have hp1 := hp.perm hpm
    obtain ⟨q1, q2, q3, q4, q6, q7, q8, q9⟩ := hp1
    obtain ⟨p, hh, hp1', hp2', hh3, h115⟩ := f74 F hF e1 a' b' id N σ1 n2 0 q7 h9 (by omega) q2 hn
    simp +contextual -implicitDefEqProofs (maxSteps := 2000000) only [↓wP, wS, seval, h2, h3, h4, h5, h6, h7, h8, hlen, h115]
    refine condC_cut (fun env' σ' n' => ∃ (p' : Nat) (h' : Int) (e2 : Array (Rq fr)), n2 ≤ n' ∧ env' 0 = .ref id 0 N 2 ∧ env' 1 = .int .i64 (a' : Int) ∧ env' 2 = .int .i64 (b' : Int) ∧ env' 3 = .int .i64 ((lim1 : Nat) : Int) ∧ env' 4 = .fn F [] ∧
     env' 10 = .bool wb ∧ env' 11 = .bool wp ∧ env' 12 = .int .i64 ((b' - a' : Nat) : Int) ∧ env' 13 = .int .i64 (p' : Int) ∧ env' 14 = .int .i64 h' ∧ a' ≤ p' ∧ p' < b' ∧ Hs fr σ' id e2 ∧ PermIn a' b' e e2 ∧ (∀ i, i ≠ id → i < n → σ' i = σ i)) ?_ ?_ ?_
    ·intro hx
     have wb1 : IntKind.i64.wrap ((b' : Int) - 1) = ((b' - 1 : Nat) : Int) := by rw [wrap_i64] <;> omega
     have wpa : IntKind.i64.wrap ((p : Int) - (a' : Int)) = ((p - a' : Nat) : Int) := by rw [wrap_i64] <;> omega
     have wpp : IntKind.i64.wrap (((b' - 1 : Nat) : Int) - ((p - a' : Nat) : Int)) = ((b' - 1 - (p - a') : Nat) : Int) := by rw [wrap_i64] <;> omega
     simp +contextual -implicitDefEqProofs (maxSteps := 2000000) only [↓wP, wS, seval, h2, h3, h4, h5, h6, h7, h8, hlen]
     refine stepW_raw (by decide) (raw116N F hF q7 a' b' id n2 σ1 (by omega) q2 hn h9 fun σ2 d2 g1 g2 => ?_)
     simp +contextual -implicitDefEqProofs (maxSteps := 2000000) only [↓wP, wS, seval, h2, h3, h4, h5, h6, h7, h8, hlen, wb1, wpa, wpp]
     refine ⟨b' - 1 - (p - a'), 1, d2, ?_⟩
     have : ∀ i, i ≠ id → i < n → σ2 i = σ i := fun i hi hin => by rw [g1.2 i hi, hf i hi hin]
     have := permIn_trans _ _ _ _ _ hpm g2
     have := g1.1
     repeat' (first | assumption | rfl | omega | apply And.intro)
    ·intro hx
     simp +contextual -implicitDefEqProofs (maxSteps := 2000000) only [↓wP, wS, seval, h2, h3, h4, h5, h6, h7, h8, hlen]
     refine ⟨p, hh, e1, ?_⟩
     repeat' (first | assumption | rfl | omega | apply And.intro)
    ·clear h2 h3 h4 h5 h6 h7 h8 hlen hpm hf h9 q1 q2 q3 q4 q6 q7 q8 q9 h115
     intro env σ1 n3 ⟨p', h', e2, hn3, h2, h3, h4, h5, h6, h7, h8, hlen, h13, h14, hpa, hpb, h9, hpm, hf⟩
     obtain ⟨q1, q2, q3, q4, q6, q7, q8, q9⟩ := hp.perm hpm
     simp +contextual -implicitDefEqProofs (maxSteps := 2000000) only [↓wP, wS, seval, h2, h3, h4, h5, h6, h7, h8, hlen, h13, h14]
     refine condC_cut (fun env' σ' n' => ∃ (e3 : Array (Rq fr)), n3 ≤ n' ∧ env' 0 = .ref id 0 N 2 ∧ env' 1 = .int .i64 (a' : Int) ∧ env' 2 = .int .i64 (b' : Int) ∧ env' 3 = .int .i64 ((lim1 : Nat) : Int) ∧ env' 4 = .fn F [] ∧
      env' 10 = .bool wb ∧ env' 11 = .bool wp ∧ env' 12 = .int .i64 ((b' - a' : Nat) : Int) ∧ env' 13 = .int .i64 (p' : Int) ∧ Hs fr σ' id e3 ∧ PermIn a' b' e e3 ∧ (∀ i, i ≠ id → i < n → σ' i = σ i)) ?_ ?_ ?_
     ·intro hx
      simp +contextual -implicitDefEqProofs (maxSteps := 2000000) only [↓wP, wS, seval, h2, h3, h4, h5, h6, h7, h8, hlen, h13, h14]
      refine stepW_raw (by decide) (raw76 F hF e2 N a' b' id n3 σ1 q7 (by omega) q2 hn h9 fun σ2 hat => ?_)
      obtain ⟨ps1, ps2⟩ := partialInsertionSort_holds (lt := ahQ) swoQ e2 a' b' (by omega) (by omega) q8
      generalize (partialInsertionSort ahQ e2 a' b').1 = e3 at *
      generalize (partialInsertionSort ahQ e2 a' b').2 = r at *
      have hfr : ∀ i, i ≠ id → i < n → σ2 i = σ i := fun i hi hin => by rw [hat.2 i hi, hf i hi hin]
      have hpm3 := permIn_trans _ _ _ _ _ hpm ps1
      cases r
      ·simp +contextual -implicitDefEqProofs (maxSteps := 2000000) only [↓wP, wS, seval, h2, h3, h4, h5, h6, h7, h8, hlen, h13, h14]
       exact ⟨e3, hat.1, hpm3, hfr⟩
      ·simp +contextual -implicitDefEqProofs (maxSteps := 2000000) only [↓wP, wS, seval, h2, h3, h4, h5, h6, h7, h8, hlen, h13, h14]
       have hR := q9 e3 ps1 (ps2 rfl)
       exact hQ _ _ _ (by omega) hat.1 hfr hR.1 hR.2
     ·intro hx
      simp +contextual -implicitDefEqProofs (maxSteps := 2000000) only [↓wP, wS, seval, h2, h3, h4, h5, h6, h7, h8, hlen, h13, h14]
      exact ⟨e2, h9, hpm, hf⟩
     ·clear h2 h3 h4 h5 h6 h7 h8 hlen h13 h14 hpm hf h9 q1 q2 q3 q4 q6 q7 q8 q9
      intro env σ2 n4 ⟨e3, hn4, h2, h3, h4, h5, h6, h7, h8, hlen, h13, h9, hpm, hf⟩
      have hn3' : n1 ≤ n4 := by omega
      clear hn4
      rename_i e2old
      obtain ⟨q1, q2, q3, q4, q6, q7, q8, q9⟩ := hp.perm hpm
      generalize e3 = e2 at *
      rw [seqQ_normal, WC_seq]
      refine WC_cut (fun env' σ' n' => n' = n4 ∧ σ' = σ2 ∧ env' 0 = .ref id 0 N 2 ∧ env' 1 = .int .i64 (a' : Int) ∧ env' 2 = .int .i64 (b' : Int) ∧ env' 3 = .int .i64 ((lim1 : Nat) : Int) ∧ env' 4 = .fn F [] ∧
       env' 10 = .bool wb ∧ env' 11 = .bool wp ∧ env' 12 = .int .i64 ((b' - a' : Nat) : Int) ∧ env' 13 = .int .i64 (p' : Int)) ?_ ?_
      ·by_cases ha0 : 0 < a'
       ·have ha0' : (0 : Int) < (a' : Int) := by omega
        have wa1 : IntKind.i64.wrap ((a' : Int) - 1) = ((a' - 1 : Nat) : Int) := by rw [wrap_i64] <;> omega
        have x1 := rq_at (d := e2) (i := a' - 1) (by omega)
        have x2 := rq_at (d := e2) (i := p') (by omega)
        have l1 : a' - 1 < N := by omega
        have l2 : p' < N := by omega
        have hFq := hF.at h9
        by_cases hc : cmpU (e2[a' - 1]!).id (e2[p']!).id < 0
        ·simp +contextual -implicitDefEqProofs (maxSteps := 2000000) only [↓wP, wS, seval, h2, h3, h4, h5, h6, h7, h8, hlen, h13, ha0', wa1, h9.1, x1, x2, l1, l2, hFq, hc]
        ·have hah : ahQ e2[a' - 1]! e2[p']! = false := by rw [← cmpQ_lt]; simpa using hc
         simp +contextual -implicitDefEqProofs (maxSteps := 2000000) only [↓wP, wS, seval, h2, h3, h4, h5, h6, h7, h8, hlen, h13, ha0', wa1, h9.1, x1, x2, l1, l2, hFq, hc]
         refine stepW_raw (by decide) (raw118N F hF q7 a' b' p' id n4 σ2 hpa hpb q2 hn h9 fun σ5 hat => ?_)
         obtain ⟨r1, r2, r3, r4, r5⟩ := round_eq (lt := ahQ) swoQ (partitionEqual_holds ahQ) (d3 := e2) (d4 := (partitionEqual ahQ e2 a' b' p').2) (mid := (partitionEqual ahQ e2 a' b' p').1) (a := a') (b := b') (pivot := p') ha0 hpa hpb (by omega) q8 hah rfl
         simp +contextual -implicitDefEqProofs (maxSteps := 2000000) only [↓wP, wS, seval, h2, h3, h4, h5, h6, h7, h8, hlen, h13]
         generalize (partitionEqual ahQ e2 a' b' p').2 = e3 at *
         generalize (partitionEqual ahQ e2 a' b' p').1 = mid at *
         have hfr : ∀ i, i ≠ id → i < n → σ5 i = σ i := fun i hi hin => by rw [hat.2 i hi, hf i hi hin]
         refine ⟨((mid, b'), lim1), by dsimp only; omega, by omega, rfl, rfl, rfl, ⟨_, rfl⟩, ⟨_, rfl⟩, hfr, e3, ⟨r2, q2, by dsimp only; omega, by dsimp only; omega, by dsimp only; omega, by rw [r3, q7], r4, fun R hR hs => ?_⟩, hat.1⟩
         obtain ⟨t1, t2⟩ := r5 R hR hs
         exact q9 R t1 t2
       ·have ha0' : ¬ (0 : Int) < (a' : Int) := by omega
        simp +contextual -implicitDefEqProofs (maxSteps := 2000000) only [↓wP, wS, seval, h2, h3, h4, h5, h6, h7, h8, hlen, h13, ha0']
      ·clear h2 h3 h4 h5 h6 h7 h8 hlen h13
       intro env σ3 n5 ⟨hn5, hs5, h2, h3, h4, h5, h6, h7, h8, hlen, h13⟩
       subst hn5 hs5
       simp +contextual -implicitDefEqProofs (maxSteps := 2000000) only [↓wP, wS, seval, h2, h3, h4, h5, h6, h7, h8, hlen, h13]
       refine stepW_raw (by decide) (raw119N F hF q7 a' b' p' id n5 σ3 hpa hpb q2 hn h9 fun σ5 hat => ?_)
       obtain ⟨r1, r2, r3, r4, r5, r6, r7⟩ := round_part (lt := ahQ) swoQ (partition_holds ahQ) (d3 := e2) (d4 := (partition ahQ e2 a' b' p').2.2) (mid := (partition ahQ e2 a' b' p').1) (ap := (partition ahQ e2 a' b' p').2.1) (a := a') (b := b') (pivot := p') hpa hpb (by omega) q8 rfl
       generalize (partition ahQ e2 a' b' p').2.2 = e3 at *
       generalize (partition ahQ e2 a' b' p').1 = mid at *
       generalize (partition ahQ e2 a' b' p').2.1 = ap at *
       have hfr : ∀ i, i ≠ id → i < n → σ5 i = σ i := fun i hi hin => by rw [hat.2 i hi, hf i hi hin]
       have wma : IntKind.i64.wrap ((mid : Int) - (a' : Int)) = ((mid - a' : Nat) : Int) := by rw [wrap_i64] <;> omega
       have wbm : IntKind.i64.wrap ((b' : Int) - (mid : Int)) = ((b' - mid : Nat) : Int) := by rw [wrap_i64] <;> omega
       have wm1 : IntKind.i64.wrap ((mid : Int) + 1) = ((mid + 1 : Nat) : Int) := by rw [wrap_i64] <;> omega
       have q8' := bin_quo8 (b' - a') (by omega)
       have hsz : e3.size = N := by rw [r3, q7]
       by_cases hlr : mid - a' < b' - mid
       ·have hlr' : ((mid - a' : Nat) : Int) < ((b' - mid : Nat) : Int) := by omega
        simp +contextual -implicitDefEqProofs (maxSteps := 2000000) only [↓wP, wS, seval, h2, h3, h4, h5, h6, h7, h8, hlen, h13, wma, wbm, wm1, q8', hlr']
        refine stepW_raw (by decide) (ih e3 a' mid lim1 id n5 N σ5 (by omega) r1 (by omega) (by omega) hn (by omega) (by omega) hsz hat.1 r4 fun σ6 d6 n6 k1 k2 k3 k4 k5 => ?_)
        obtain ⟨t1, t2⟩ := r6 d6 k4 k5
        simp +contextual -implicitDefEqProofs (maxSteps := 2000000) only [↓wP, wS, seval, h2, h3, h4, h5, h6, h7, h8, hlen, h13, wm1]
        have hfr2 : ∀ i, i ≠ id → i < n → σ6 i = σ i := fun i hi hin => by rw [k3 i hi (by omega), hfr i hi hin]
        refine ⟨((mid + 1, b'), lim1), by dsimp only; omega, by omega, rfl, rfl, rfl, ⟨_, rfl⟩, ⟨_, rfl⟩, hfr2, d6, ⟨by dsimp only; omega, q2, by dsimp only; omega, by dsimp only; omega, by dsimp only; omega, by rw [k4.1, hsz], t1, fun R hR hs => ?_⟩, k2⟩
        obtain ⟨u1, u2⟩ := t2 R hR hs
        exact q9 R u1 u2
       ·have hlr' : ¬ ((mid - a' : Nat) : Int) < ((b' - mid : Nat) : Int) := by omega
        simp +contextual -implicitDefEqProofs (maxSteps := 2000000) only [↓wP, wS, seval, h2, h3, h4, h5, h6, h7, h8, hlen, h13, wma, wbm, wm1, q8', hlr']
        refine stepW_raw (by decide) (ih e3 (mid + 1) b' lim1 id n5 N σ5 (by omega) (by omega) (by omega) q2 hn (by omega) (by omega) hsz hat.1 r5 fun σ6 d6 n6 k1 k2 k3 k4 k5 => ?_)
        obtain ⟨t1, t2⟩ := r7 d6 k4 k5
        simp +contextual -implicitDefEqProofs (maxSteps := 2000000) only [↓wP, wS, seval, h2, h3, h4, h5, h6, h7, h8, hlen, h13]
        have hfr2 : ∀ i, i ≠ id → i < n → σ6 i = σ i := fun i hi hin => by rw [k3 i hi (by omega), hfr i hi hin]
        refine ⟨((a', mid), lim1), by dsimp only; omega, by omega, rfl, rfl, rfl, ⟨_, rfl⟩, ⟨_, rfl⟩, hfr2, d6, ⟨by dsimp only; omega, by dsimp only; omega, by dsimp only; omega, by dsimp only; omega, by dsimp only; omega, by rw [k4.1, hsz], t1, fun R hR hs => ?_⟩, k2⟩
        obtain ⟨u1, u2⟩ := t2 R hR hs
        exact q9 R u1 u2
 ·simp +contextual -implicitDefEqProofs (maxSteps := 2000000) only [↓wP, wS, seval]
  exact ⟨⟨true, rfl⟩, ⟨true, rfl⟩, fun _ _ _ => trivial, d, ⟨hab, hb, by omega, h50, hlim, hN, hB, fun R hR hs => ⟨hR, hs⟩⟩, hσ⟩
theorem raw62 (F : Nat) (hF : CmpQ fr F) : ∀ L : Nat, Sorts (fr := fr) F L
 | 0 => fun _ _ _ _ _ _ _ _ h => absurd h (by omega)
 | L + 1 => raw62_step F hF L (raw62 F hF L)
def chk63 (m : Nat) : Bool := match exJob T 60 (.pure 63 [.int .u64 (m : Int)]) with
 | some (.val (.int .i64 M)) => decide (0 ≤ M ∧ M < 1000)
 | _ => false
theorem all63 : (List.range 129).all chk63 = true := by decide +kernel
theorem r63 (m : Nat) (h : m < 129) : ∃ M : Nat, M < 1000 ∧ res T 63 [.int .u64 (m : Int)] = some (.int .i64 (M : Int)) := by
 have h := List.all_eq_true.1 all63 m (List.mem_range.2 h)
 unfold chk63 at h
 split at h
 ·rename_i M hM
  simp only [decide_eq_true_eq] at h
  refine ⟨M.toNat, by omega, ?_⟩
  rw [show ((M.toNat : Nat) : Int) = M by omega]
  exact run_res (exJob_sound 60 _ _ hM)
 ·cases h
theorem raw41 (F : Nat) (hF : CmpQ fr F) (d : Array (Rq fr)) (id n : Nat) (σ : Sto) (hd : d.size < 129) (hid : id < n) (hσ : Hs fr σ id d) {Q : V → Sto → Nat → Prop}
 (hQ : ∀ σ' d' n', n ≤ n' → Hs fr σ' id d' → (∀ i, i ≠ id → i < n → σ' i = σ i) → PermIn 0 d.size d d' → SortedIn ahQ 0 d.size d' → Q .undef σ' n') :
 run T (.raw 41 [.ref id 0 d.size 2, .fn F []] σ n 0) (memQ Q) := by
 refine run_rawE (fn := g41) rfl rfl ?_
 simp only [g41, b41, zO, zN, zM, zL, zG, zP, zQ, zI, zA, zT, zF, zB, zC, zD, zE, zH, zJ, zK]
 obtain ⟨M, h2, h3⟩ := r63 d.size hd
 have f63 := callE_tr (fs := true) (by decide) h3 (by simp [Tr]) rfl
 have wu : IntKind.u64.wrap ((d.size : Nat) : Int) = ((d.size : Nat) : Int) := by rw [wrap_u64] <;> omega
 simp +contextual -implicitDefEqProofs (maxSteps := 2000000) only [↓wP, wS, seval, wu, f63]
 refine stepW_raw (by decide) (raw62 F hF (d.size + 1) d 0 d.size M id n d.size σ (by omega) (by omega) (by omega) (by omega) (by omega) h2 hid rfl hσ (.inl rfl) fun σ' d' n' k1 k2 k3 k4 k5 => ?_)
 simp +contextual -implicitDefEqProofs (maxSteps := 2000000) only [↓wP, wS, seval]
 exact hQ σ' d' n' k1 k2 k3 k4 k5
end Go.Q.SU
end

section
/- A sort of no rows; what a sort comes to. -/
namespace Go.Q.SU
open Go.Q Go.Sort
open Nat renaming reduceEqDiff → n1w, reduceAdd → n2w, reduceSub → n3w, reduceLeDiff → n4w, reduceLT → n5w, reduceMul → n6w
open Int renaming reduceBNe → i1w, reduceBEq → i2w, reduceLT → i3w, reduceLE → i4w, reduceGT → i5w
theorem raw71n (F : Nat) (σ : Sto) (n : Nat) {Q : V → Sto → Nat → Prop} (hQ : Q .undef σ n) : run T (.raw 71 [.nilS, .int .i64 0, .int .i64 0, .fn F []] σ n 0) (memQ Q) := by
 refine run_rawE (fn := g71) rfl rfl ?_
 simp only [g71, b71, zO, zN, zM, zL, zG, zP, zQ, zI, zA, zT, zF, zB, zC, zD, zE, zH, zJ, zK]
 have w1 : IntKind.i64.wrap ((0 : Int) + 1) = 1 := by decide
 simp +contextual -implicitDefEqProofs (maxSteps := 2000000) only [↓wP, wQ, wQ1, wQ2, wQ3, wR, boxE, partsOf, ↓reduceIte, n1w, n2w, n3w, n4w, n5w, n6w, reduceCtorEq, i1w, i2w, i3w, i4w, i5w, w1]
 refine WC_loopI 0 (fun (_ : Nat) env σ' n' => σ' = σ ∧ n' = n ∧ env 2 = .int .i64 0 ∧ env 8 = .int .i64 1) (fun s => s) ?_ 0 _ _ _ ?_
 ·intro _ env σ1 n1 ⟨h1, h2, h3, h4⟩
  subst h1 h2
  simp +contextual -implicitDefEqProofs (maxSteps := 2000000) only [↓wP, wQ, wQ1, wQ2, wQ3, wR, boxE, partsOf, ↓reduceIte, n1w, n2w, n3w, n4w, n5w, n6w, reduceCtorEq, i1w, i2w, i3w, i4w, i5w, h3, h4]
  exact hQ
 ·simp +contextual -implicitDefEqProofs (maxSteps := 2000000) only [↓wP, wQ, wQ1, wQ2, wQ3, wR, boxE, partsOf, ↓reduceIte, n1w, n2w, n3w, n4w, n5w, n6w, reduceCtorEq, i1w, i2w, i3w, i4w, i5w]
theorem raw62n (F : Nat) (M : Nat) (σ : Sto) (n : Nat) {Q : V → Sto → Nat → Prop} (hQ : Q .undef σ n) : run T (.raw 62 [.nilS, .int .i64 0, .int .i64 0, .int .i64 (M : Int), .fn F []] σ n 0) (memQ Q) := by
 refine run_rawE (fn := g62) rfl rfl ?_
 simp only [g62, b62, zO, zN, zM, zL, zG, zP, zQ, zI, zA, zT, zF, zB, zC, zD, zE, zH, zJ, zK]
 have w1 : IntKind.i64.wrap ((0 : Int) - 0) = 0 := by decide
 simp +contextual -implicitDefEqProofs (maxSteps := 2000000) only [↓wP, wQ, wQ1, wQ2, wQ3, wR, boxE, partsOf, ↓reduceIte, n1w, n2w, n3w, n4w, n5w, n6w, reduceCtorEq, i1w, i2w, i3w, i4w, i5w]
 refine WC_loopI 0 (fun (_ : Nat) env σ' n' => σ' = σ ∧ n' = n ∧ env 0 = .nilS ∧ env 1 = .int .i64 0 ∧ env 2 = .int .i64 0 ∧ env 4 = .fn F []) (fun s => s) ?_ 0 _ _ _ ?_
 ·intro _ env σ1 n1 ⟨h1, h2, h3, h4, h5, h6⟩
  subst h1 h2
  simp +contextual -implicitDefEqProofs (maxSteps := 2000000) only [↓wP, wQ, wQ1, wQ2, wQ3, wR, boxE, partsOf, ↓reduceIte, n1w, n2w, n3w, n4w, n5w, n6w, reduceCtorEq, i1w, i2w, i3w, i4w, i5w, h3, h4, h5, h6, w1]
  refine stepW_raw (by decide) (raw71n F σ1 n1 ?_)
  simp +contextual -implicitDefEqProofs (maxSteps := 2000000) only [↓wP, wQ, wQ1, wQ2, wQ3, wR, boxE, partsOf, ↓reduceIte, n1w, n2w, n3w, n4w, n5w, n6w, reduceCtorEq, i1w, i2w, i3w, i4w, i5w]
  exact hQ
 ·simp +contextual -implicitDefEqProofs (maxSteps := 2000000) only [↓wP, wQ, wQ1, wQ2, wQ3, wR, boxE, partsOf, ↓reduceIte, n1w, n2w, n3w, n4w, n5w, n6w, reduceCtorEq, i1w, i2w, i3w, i4w, i5w]
theorem raw41n (F : Nat) (σ : Sto) (n : Nat) {Q : V → Sto → Nat → Prop} (hQ : Q .undef σ n) : run T (.raw 41 [.nilS, .fn F []] σ n 0) (memQ Q) := by
 refine run_rawE (fn := g41) rfl rfl ?_
 simp only [g41, b41, zO, zN, zM, zL, zG, zP, zQ, zI, zA, zT, zF, zB, zC, zD, zE, zH, zJ, zK]
 obtain ⟨M, h2, h3⟩ := r63 0 (by omega)
 have f63 := callE_tr (fs := true) (by decide) h3 (by simp [Tr]) rfl
 have wu : IntKind.u64.wrap ((0 : Nat) : Int) = ((0 : Nat) : Int) := by decide
 simp +contextual -implicitDefEqProofs (maxSteps := 2000000) only [↓wP, wQ, wQ1, wQ2, wQ3, wR, boxE, partsOf, ↓reduceIte, n1w, n2w, n3w, n4w, n5w, n6w, reduceCtorEq, i1w, i2w, i3w, i4w, i5w, wu, f63]
 refine stepW_raw (by decide) (raw62n F M σ n ?_)
 simp +contextual -implicitDefEqProofs (maxSteps := 2000000) only [↓wP, wQ, wQ1, wQ2, wQ3, wR, boxE, partsOf, ↓reduceIte, n1w, n2w, n3w, n4w, n5w, n6w, reduceCtorEq, i1w, i2w, i3w, i4w, i5w]
 exact hQ
theorem sortedQ_asc {fr : Fr} [Inhabited (Rq fr)] {d d' : Array (Rq fr)} (hp : PermIn 0 d.size d d') (hs : SortedIn ahQ 0 d.size d') (hn : (d.toList.map (·.id)).Nodup) : Asc (d'.toList.map toR) ∧ d'.toList.Perm d.toList := by
 have hsz := hp.1
 have hperm : d'.toList.Perm d.toList := by
  have := hp.2.2
  rw [← hsz] at this
  have e1 : (d'.extract 0 d'.size) = d' := by simp
  have e2 : (d.extract 0 d'.size) = d := by rw [hsz]; simp
  rw [e1, e2] at this
  exact this
 refine ⟨?_, hperm⟩
 unfold Asc
 rw [List.pairwise_map, List.pairwise_iff_getElem]
 intro i j hi hj hij
 have hi' : i < d'.size := by simpa using hi
 have hj' : j < d'.size := by simpa using hj
 have h1 := hs i j (Nat.zero_le _) hij (by omega)
 have e1 : d'[i]! = d'.toList[i] := by simp [hi']
 have e2 : d'[j]! = d'.toList[j] := by simp [hj']
 rw [e1, e2] at h1
 have h2 : ¬ (d'.toList[j]).id < (d'.toList[i]).id := by simpa [ahQ] using h1
 have hn' : (d'.toList.map (·.id)).Nodup := (hperm.map _).nodup_iff.2 hn
 rw [List.nodup_iff_pairwise_ne, List.pairwise_map, List.pairwise_iff_getElem] at hn'
 have := hn' i j hi hj hij
 show (d'.toList[i]).id < (d'.toList[j]).id
 omega
end Go.Q.SU
end

section
/- writes.Overlay: rows told are laid down, vectors and all. -/
namespace Go.Q.SU
open Go.Q Go.Sort
abbrev Tq := (Int × List Int) × Nat
def tqV (x : Tq) : V := .agg [.int .u64 x.1.1, .ref x.2 0 x.1.2.length 1]
def tqR (x : Tq) : Rw := ⟨x.1.1, some x.1.2⟩
def Vks (σ : Sto) (a b : Nat) (P : List Tq) : Prop := (P.map (·.2)).Nodup ∧ ∀ x ∈ P, a ≤ x.2 ∧ x.2 < b ∧ σ x.2 = some (.row 1 (x.1.2.map i32V))
theorem Vks.loc {σ σ' : Sto} {a b a' b' : Nat} {P : List Tq} (h : Vks σ a b P) (hs : ∀ x ∈ P, σ' x.2 = σ x.2) (ha : a' ≤ a) (hb : b ≤ b') : Vks σ' a' b' P :=
 ⟨h.1, fun x hx => by obtain ⟨h1, h2, h3⟩ := h.2 x hx; exact ⟨by omega, by omega, by rw [hs x hx]; exact h3⟩⟩
theorem Vks.snoc {σ : Sto} {a b b' k : Nat} {P : List Tq} {y : Int × List Int} (h : Vks σ a b P) (hk : b ≤ k) (hk2 : k < b') (ha : a ≤ b) (hy : σ k = some (.row 1 (y.2.map i32V))) : Vks σ a b' (P ++ [(y, k)]) := by
 refine ⟨?_, fun x hx => ?_⟩
 ·rw [List.map_append]
  refine List.nodup_append.2 ⟨h.1, by simp, fun x hx z hz => ?_⟩
  simp only [List.map_cons, List.map_nil, List.mem_singleton] at hz
  obtain ⟨q, hq, rfl⟩ := List.mem_map.1 hx
  have := (h.2 q hq).2.1
  omega
 ·rcases List.mem_append.1 hx with hx | hx
  ·obtain ⟨h1, h2, h3⟩ := h.2 x hx; exact ⟨h1, by omega, h3⟩
  ·rw [List.mem_singleton] at hx
   subst hx
   exact ⟨by show a ≤ k; omega, hk2, hy⟩
def Gq (σ : Sto) (m n : Nat) (gv : V) (P : List Tq) : Prop := Pl σ m n 2 gv (oL (P.map tqV)) ∧ Vks σ m n P ∧ ∀ i off len s, gv = .ref i off len s → ∀ x ∈ P, x.2 < i
theorem Gq.loc {σ σ' : Sto} {m n n' : Nat} {gv : V} {P : List Tq} (h : Gq σ m n gv P) (hs : ∀ i, m ≤ i → i < n → σ' i = σ i) (hn : n ≤ n') : Gq σ' m n' gv P :=
 ⟨h.1.loc hs hn, h.2.1.loc (fun x hx => by obtain ⟨h1, h2, -⟩ := h.2.1.2 x hx; exact hs _ h1 h2) (Nat.le_refl _) hn, h.2.2⟩
theorem Gq.low {σ : Sto} {m m' n : Nat} {gv : V} {P : List Tq} (h : Gq σ m n gv P) (hm : m' ≤ m) : Gq σ m' n gv P := by
 refine ⟨?_, h.2.1.loc (fun _ _ => rfl) hm (Nat.le_refl _), h.2.2⟩
 have h1 := h.1
 cases ho' : oL (P.map tqV) with
 | none => rw [ho'] at h1; exact h1
 | some xs => rw [ho'] at h1; obtain ⟨i, f1, f2, f3, f4⟩ := h1; exact ⟨i, f1, f2, by omega, f4⟩
theorem okV_some {v : Vc} (h : okV v = true) : v = some (lst v) ∧ (lst v).length ≤ 4 := by
 unfold okV at h
 simp only [Bool.and_eq_true, decide_eq_true_eq] at h
 obtain ⟨⟨h1, h2⟩, -⟩ := h
 refine ⟨?_, h2⟩
 cases v with
 | none => simp [lst] at h1
 | some l => rfl
theorem ovLoop {env : Nat → V} {σ : Sto} {n d pr pm pw mid : Nat} {Q : Ex → St → Prop} (o : Option (List Rw)) (w : Option (List Wr)) (hl : (lst o).length ≤ 1000) (hlw : (lst w).length ≤ 1000) (hv : ∀ r ∈ lst o, okV r.v = true) (hvw : ∀ x ∈ lst w, x.g = false → okV x.v = true)
 (hg : env 52 = .fn 61 [.ptr pr 1 0 0, .ptr pm 1 0 0, .ptr pw 1 0 0]) (hd : env 11 = .ptr d 1 0 0) (hσ : σ d = some (.row 1 [.nilS])) (hOwn : Own σ pr pm pw mid o w) (hdn : d < n) (l1 : pr < n) (l2 : pm < n) (l3 : pw < n) (l4 : mid < n)
 (n1 : pr ≠ d) (n2 : pm ≠ d) (n3 : pw ≠ d) (n4 : mid ≠ d)
 (hQ : ∀ σ' n' gv P, (∀ i, i < n → i ≠ d → σ' i = σ i) → n ≤ n' → σ' d = some (.row 1 [gv]) → Gq σ' n n' gv P → P.map tqR = ovD (lst o) (lst w) → Q .normal ⟨env, σ', n', 0⟩) :
 WC T (.rangeF (.tmp 52) [53] (.reg [⟨some 12, none, .alloc (.agg [.int .u64 0, .nilS])⟩, ⟨none, none, .store 2 (.tmp 12) (.tmp 53)⟩])
  (.block 3 (.regd [⟨[⟨⟨some 54, none, .load false 1 (.tmp 11)⟩, false, false, false, 0, [0, 1], none⟩,
   ⟨⟨some 55, none, .faddr (.tmp 12) 0⟩, true, false, false, 0, [], none⟩, ⟨⟨some 56, none, .load false 1 (.tmp 55)⟩, false, false, false, 0, [0], none⟩,
   ⟨⟨some 57, none, .faddr (.tmp 12) 1⟩, true, false, false, 0, [], none⟩, ⟨⟨some 58, none, .load false 1 (.tmp 57)⟩, false, false, false, 0, [], none⟩,
   ⟨⟨some 59, none, .call 40 [.tmp 58]⟩, false, false, true, 0, [], none⟩,
   ⟨⟨some 60, none, .build [.int .u64 0, .nilS] [(0, 1, .tmp 56), (1, 1, .tmp 59)]⟩, true, false, false, 1, [], none⟩,
   ⟨⟨some 61, none, .lit 2 [.tmp 60]⟩, false, false, true, 1, [], none⟩], 2, [⟨some 62, none, .append 2 32 (.tmp 54) (.tmp 61)⟩, ⟨none, none, .store 1 (.tmp 11) (.tmp 62)⟩]⟩]))) env σ n 0 Q := by
 refine WC_rangeF hg (Nat.zero_le _) ?_
 generalize hA : AC.reg [⟨some 12, none, .alloc (.agg [.int .u64 0, .nilS])⟩, ⟨none, none, .store 2 (.tmp 12) (.tmp 53)⟩] = asg
 generalize hB : AC.block 3 _ = bd
 refine run_mono _ _ _ (fun r ho => ?_) (seen102 o w (fun pre σ' n' => n < n' ∧ (∀ i, i < n → i ≠ d → σ' i = σ i) ∧ σ' n = some (.loop env [53] asg bd .ready none) ∧
  ∃ gv P, σ' d = some (.row 1 [gv]) ∧ Gq σ' (n + 1) n' gv P ∧ P.map tqR = pre) n pr pm pw mid (by omega) (by omega) ?_ ?_ ?_ _ _ ?_)
 ·cases r <;> try exact ho.elim
  obtain ⟨e1, e2, e3, gv, P, e4, e5, e6⟩ := ho
  refine ⟨_, _, _, _, _, _, e3, by decide, ?_⟩
  refine hQ _ _ gv P (fun i hi h2 => by rw [upd_ne (by omega)]; exact e2 i hi h2) (by omega) (by rw [upd_ne (by omega)]; exact e4) ?_ e6
  exact (e5.loc (σ' := upd _ n none) (fun i hi _ => upd_ne (by omega)) (Nat.le_refl _)).low (by omega)
 ·rintro pre σ' n' ⟨e1, e2, -⟩
  obtain ⟨d1, d2, d3, Lm, clk, m1, m2, m3⟩ := hOwn
  exact ⟨⟨by rw [e2 pr l1 n1]; exact d1, by rw [e2 pm l2 n2]; exact d2, by rw [e2 pw l3 n3]; exact d3, Lm, clk, m1, by rw [e2 mid l4 n4]; exact m2, m3⟩, by omega, by omega, by omega, by omega⟩
 ·rintro pre σ' n' σ2 ⟨e1, e2, e3, gv, P, e4, e5, e6⟩ hσ2
  exact ⟨by omega, fun i hi h2 => by rw [hσ2 i (by omega)]; exact e2 i hi h2, by rw [hσ2 n (by omega)]; exact e3, gv, P, by rw [hσ2 d (by omega)]; exact e4, e5.loc (fun i _ hi => hσ2 i (by omega)) (by omega), e6⟩
 ·rintro pre σ' n' r hpre hr ⟨e1, e2, e3, gv, P, e4, e5, e6⟩
  have hrv : okV r.v = true := by
   rcases hr with hr | ⟨x, hx, hxg, rfl⟩
   ·exact hv r hr
   ·exact hvw x hx hxg
  obtain ⟨hrs, hrl⟩ := okV_some hrv
  have hDl : (ovD (lst o) (lst w)).length ≤ 2000 := by
   unfold ovD
   rw [List.length_append, List.length_map]
   have h1 := List.length_filter_le (fun r : Rw => !ownB (lst w) r.id) (lst o)
   have h2 := List.length_filter_le (fun x : Wr => !x.g) (lst w)
   omega
  have hPl : P.length = pre.length := by rw [← e6, List.length_map]
  obtain ⟨xs, hxs⟩ : ∃ xs, xs = lst r.v := ⟨_, rfl⟩
  rw [← hxs] at hrs hrl
  have f := f40s xs (by omega)
  rw [slV_some] at f
  refine yieldW_go e3 rfl (Nat.zero_le _) ?_ (hd := ⟨by rw [← hA]; rfl, by rw [← hB]; rfl⟩)
  obtain ⟨LR, hLR⟩ : ∃ LR, LR = Ob.loop env [53] asg bd .ready none := ⟨_, rfl⟩
  obtain ⟨LB, hLB⟩ : ∃ LB, LB = Ob.loop env [53] asg bd .busy none := ⟨_, rfl⟩
  rw [← hLR] at e3 ⊢
  rw [← hLB]
  subst hA
  subst hB
  have hBp := big_le
  have a1 : (n = n') = False := by simp; omega
  have a2 : (d = n') = False := by simp; omega
  have a3 : (d = n) = False := by simp; omega
  have a4 : (n = d) = False := by simp; omega
  have a5 : (n' = n) = False := by simp; omega
  have a6 : (n' = d) = False := by simp; omega
  have b1 := e5.1.cells
  rw [rwV_eq, hrs, slV_some]
  obtain ⟨nn, hnn⟩ : ∃ nn, nn = n' + 1 := ⟨_, rfl⟩
  obtain ⟨σ1, hσ1⟩ : ∃ σ1, σ1 = upd (upd (upd σ' n' (some (.row 2 [.agg [.int .u64 0, .nilS]]))) n' (some (.row 2 [.agg [.int .u64 r.id, .sl 1 (xs.map i32V)]]))) n (some LB) := ⟨_, rfl⟩
  have s1 : ∀ i, i < n' → i ≠ n → σ1 i = σ' i := fun i hi hi2 => by rw [hσ1, upd_ne hi2, upd_ne (by omega), upd_ne (by omega)]
  have s2 : σ1 n' = some (.row 2 [.agg [.int .u64 r.id, .sl 1 (xs.map i32V)]]) := by rw [hσ1, upd_ne (by omega), upd_self]
  have s3 : σ1 n = some LB := by rw [hσ1, upd_self]
  have s4 : σ1 d = some (.row 1 [gv]) := by rw [s1 d (by omega) (by omega)]; exact e4
  obtain ⟨σ2, hσ2⟩ : ∃ σ2, σ2 = merge σ1 (upd σ1 nn (some (.row 1 (xs.map i32V)))) nn := ⟨_, rfl⟩
  have t1 : ∀ i, i < nn → σ2 i = σ1 i := fun i hi => by rw [hσ2, merge_low _ _ _ hi]
  have t2 : σ2 nn = some (.row 1 (xs.map i32V)) := by rw [hσ2, merge_in _ _ _ (Nat.le_refl _) (by omega), upd_self]
  have yd : ∀ hid, hide σ1 nn nn hid d = some (.row 1 [gv]) := fun hid => by rw [hide_low _ _ _ _ (by omega) (Nat.le_refl _)]; exact s4
  have yn : ∀ hid, hide σ1 nn nn hid n' = some (.row 2 [.agg [.int .u64 r.id, .sl 1 (xs.map i32V)]]) := fun hid => by rw [hide_low _ _ _ _ (by omega) (Nat.le_refl _)]; exact s2
  have l5 : (nn + 1 ≤ nn + BIG) = True := by simp; omega
  simp +contextual -implicitDefEqProofs (maxSteps := 2000000) only [↓wP, wS, seval, bind_cons, bind_nil, hd, e3, e4, a1, a2, a3, a4, a5, a6, b1, f, ← hnn, Nat.mul_zero, Nat.mul_one, ← hσ1, s2, s4, yd, yn, l5, Nat.le_refl, ← hσ2]
  obtain ⟨σ3, hσ3⟩ : ∃ σ3, σ3 = merge σ2 (upd σ2 (nn + BIG) (some (Ob.row 2 [V.agg [V.int IntKind.u64 r.id, V.ref nn 0 xs.length 1]]))) (nn + BIG) := ⟨_, rfl⟩
  have t3 : ∀ i, i < nn + BIG → σ3 i = σ2 i := fun i hi => by rw [hσ3, merge_low _ _ _ hi]
  have t4 : σ3 (nn + BIG) = some (Ob.row 2 [V.agg [V.int IntKind.u64 r.id, V.ref nn 0 xs.length 1]]) := by rw [hσ3, merge_in _ _ _ (Nat.le_refl _) (by omega), upd_self]
  have l6 : (nn + (BIG + 1) ≤ nn + (BIG + BIG)) = True := by simp; omega
  have hlow : ∀ i, i < nn → σ3 i = σ1 i := fun i hi => by rw [t3 i (by omega), t1 i hi]
  have e5' := e5.loc (σ' := σ3) (n' := n') (fun i hi hi2 => by rw [hlow i (by omega), s1 i hi2 (by omega)]) (Nat.le_refl _)
  have hvn : ∀ i, i ≤ n → ∀ off len s, gv ≠ .ref i off len s := by
   intro i hi off len s e
   subst e
   have e5 := e5.1
   cases ho' : oL (P.map tqV) with
   | none => rw [ho'] at e5; cases e5
   | some xs => rw [ho'] at e5; obtain ⟨i, e, -, e2, -⟩ := e5; simp only [V.ref.injEq] at e; omega
  have hvk : ∀ off len s, gv ≠ .ref nn off len s := by
   intro off len s e
   subst e
   have e5 := e5.1
   cases ho' : oL (P.map tqV) with
   | none => rw [ho'] at e5; cases e5
   | some xs => rw [ho'] at e5; obtain ⟨i, e, -, -, e2⟩ := e5; simp only [V.ref.injEq] at e; omega
  have hvP : ∀ x ∈ P, ∀ off len s, gv ≠ .ref x.2 off len s := fun x hx off len s e => by
   have := e5.2.2 _ _ _ _ e x hx; omega
  simp +contextual -implicitDefEqProofs (maxSteps := 2000000) only [↓wP, wS, seval, bind_cons, bind_nil, hd, l6, ← hσ3, t4]
  refine stepW_app1 (m := n + 1) (n0 := n') (σ0 := σ3) e5'.1 (fun i _ _ => rfl) (by omega) (by omega) (Nat.zero_le _) ?_ (fun _ σ4 g1 g2 => ?_)
  ·rw [lst_oL, List.length_map]; unfold LIM; omega
  ·rw [lst_oL] at g1 ⊢
   have u1 : ∀ i, i ≤ n → σ4 i = σ1 i := fun i hi => by rw [g2 i (by omega) (hvn i hi), hlow i (by omega)]
   have u2 : σ4 d = some (.row 1 [gv]) := by rw [u1 d (by omega)]; exact s4
   have u3 : σ4 n = some LB := by rw [u1 n (Nat.le_refl _)]; exact s3
   have u4 : σ4 nn = some (.row 1 (xs.map i32V)) := by rw [g2 nn (by omega) hvk, t3 nn (by omega)]; exact t2
   have hsp := spl e5'.1
   simp +contextual -implicitDefEqProofs (maxSteps := 2000000) only [↓wP, wS, seval, bind_cons, bind_nil, hd, u2, u3, a3, a4, hsp]
   refine ⟨by omega, fun i hi hid => ?_, _, P ++ [((r.id, xs), nn)], rfl, ⟨?_, ?_, ?_⟩, ?_⟩
   ·rw [if_neg (by omega), u1 i (by omega), s1 i (by omega) (by omega)]
    exact e2 i hi hid
   ·rw [List.map_append]
    have e7 : oL (P.map tqV ++ [((r.id, xs), nn)].map tqV) = some (P.map tqV ++ [.agg [.int .u64 r.id, .ref nn 0 xs.length 1]]) := by
     cases P <;> rfl
    rw [e7]
    exact g1.loc (fun i hi _ => by rw [upd_ne (by omega), upd_ne (by omega)]) (by omega)
   ·refine Vks.snoc (b := n') (Vks.loc e5'.2.1 (fun x hx => ?_) (Nat.le_refl _) (Nat.le_refl _)) (by omega) (by omega) (by omega) ?_
    ·obtain ⟨v1, v2, -⟩ := e5'.2.1.2 x hx
     rw [upd_ne (by omega), upd_ne (by omega), g2 _ (by omega) (hvP x hx)]
    ·rw [upd_ne (by omega), upd_ne (by omega)]; exact u4
   ·intro i off len sz e x hx
    simp only [V.ref.injEq] at e
    rcases List.mem_append.1 hx with hx | hx
    ·have := (e5'.2.1.2 x hx).2.1; omega
    ·rw [List.mem_singleton] at hx
     subst hx
     show nn < i
     omega
   ·rw [List.map_append, e6]
    congr 1
    obtain ⟨ri, rv⟩ := r
    simp only at hrs
    rw [hrs]; rfl
 ·exact ⟨by omega, fun i hi _ => upd_ne (by omega), upd_self _ _ _, .nilS, [], by rw [upd_ne (by omega)]; exact hσ, ⟨by simp [oL, Pl], ⟨by simp, fun x hx => by simp at hx⟩, fun _ _ _ _ e => by cases e⟩, rfl⟩
end Go.Q.SU
end

section
/- writes.Overlay, handing over rows of a caller's own. -/
namespace Go.Q.SU
open Go.Q Go.Sort
def mkQ (fr : Fr) (P : List Tq) (h : ∀ x ∈ P, x.2 < fr.i ∧ fr.σ x.2 = some (.row 1 (x.1.2.map i32V))) : List (Rq fr) := P.pmap (fun x h => ⟨x.1.1, x.1.2, x.2, x.1.2.length, rfl, h.1, h.2⟩) h
def ofQ {fr : Fr} (x : Rq fr) : Tq := ((x.id, x.xs), x.k)
theorem mkQ_of (fr : Fr) (P : List Tq) (h) : (mkQ fr P h).map ofQ = P := by
 unfold mkQ
 rw [List.map_pmap]
 exact (List.pmap_eq_map _).trans (List.map_id _)
theorem ofQ_V {fr : Fr} (l : List (Rq fr)) : (l.map ofQ).map tqV = l.map rqV := by
 rw [List.map_map]
 refine List.map_congr_left (fun x _ => ?_)
 obtain ⟨a, b, c, d, e, f, g⟩ := x
 subst e
 rfl
theorem ofQ_R {fr : Fr} (l : List (Rq fr)) : (l.map ofQ).map tqR = l.map toR := by
 rw [List.map_map]; rfl
theorem frz_tqs {σ : Sto} (k : Nat) : ∀ {P : List Tq}, (∀ x ∈ P, σ x.2 = some (.row 1 (x.1.2.map i32V))) → (P.map tqV).mapM (elemM (Go.Q.frz σ (k + 2))) = some (P.map fun x => rwV (tqR x))
 | [], _ => rfl
 | x :: P, h => by
   have r1 := frz_tqs k (P := P) (fun y hy => h y (List.mem_cons_of_mem _ hy))
   have hg := frz_vx (σ := σ) (x := (⟨0, 0, false, some x.1.2⟩, some x.2)) ⟨rfl, h x List.mem_cons_self⟩ k
   simp only [vx, lst_some] at hg
   rw [List.map_cons, List.mapM_cons, r1]
   simp only [tqV, elemM, List.mapM_cons, List.mapM_nil, frz_int, hg]
   rfl
theorem frz_rowsQ {σ : Sto} {i : Nat} {P : List Tq} (h : σ i = some (.row 2 (P.map tqV))) (hv : ∀ x ∈ P, σ x.2 = some (.row 1 (x.1.2.map i32V))) (hP : P ≠ []) (k : Nat) : Go.Q.frz σ (k + 3) (.ref i 0 P.length 2) = some (slV 2 rwV (oL (P.map tqR))) := by
 have hl : P.length = (P.map tqV).length := by rw [List.length_map]
 rw [frz_rf, h, elemsO_row, if_pos (by omega), List.drop_zero, hl, List.take_length, Option.bind_some, frz_tqs k hv]
 cases P with
 | nil => exact absurd rfl hP
 | cons x P => simp [slV, oL]
theorem roU_ok {l : List Rw} (h : roU l l.length = true) : ∀ r ∈ l, okV r.v = true := by
 intro r hr
 obtain ⟨j, hj, rfl⟩ := List.getElem_of_mem hr
 have := roU_pre h j hj hj
 unfold roN at this
 rw [Bool.and_eq_true] at this
 exact this.1
theorem rightW_ok {l : List Wr} (h : rightW l = true) : ∀ w ∈ l, okW w = true := by
 unfold rightW at h
 rw [Bool.and_eq_true] at h
 have pre : ∀ n, n ≤ l.length → wU l n = true → ∀ j, j < n → (hj : j < l.length) → okN l j l[j] = true := by
  intro n
  induction n with
  | zero => intro _ _ j hj; omega
  | succ n ih =>
    intro hn hw j hj hjl
    rw [wU_step (by omega : n < l.length), Bool.and_eq_true] at hw
    by_cases e : j = n
    ·subst e; exact hw.2
    ·exact ih (by omega) hw.1 j (by omega) hjl
 intro r hr
 obtain ⟨j, hj, rfl⟩ := List.getElem_of_mem hr
 have := pre _ (Nat.le_refl _) h.2 j hj hj
 unfold okN at this
 rw [Bool.and_eq_true] at this
 exact this.1
theorem okW_v {w : Wr} (h : okW w = true) (hg : w.g = false) : okV w.v = true := by
 unfold okW at h
 rw [hg] at h
 simp only [Bool.false_eq_true, if_false, Bool.and_eq_true] at h
 exact h.2
def SmRo (l : List Rw) : Prop := l.length ≤ 100 ∧ ∀ r ∈ l, (lst r.v).length ≤ 1000000
theorem r15 (l : Option (List Wr)) (c : Int) (o : Option (List Rw)) (h : FitW (lst l)) (ho : SmRo (lst o)) : res T 15 [slV 4 wrV l, .int .i64 c, slV 2 rwV o] = some (.tup [slV 2 rwV (oL (ovL (lst l) c (lst o))), .int .i64 (ovE (lst l) c (lst o))]) := by
 refine run_res (run_pure (fn := g15) rfl rfl (by decide) ?_)
 simp only [g15, b15, zO, zN, zM, zL, zG, zP, zQ, zI, zA, zT, zF, zB, zC, zD, zE, zH, zJ, zK]
 have hl := h.1
 have hol := ho.1
 have hsw : SmW l := ⟨by omega, fun x hx => by have := h.2 x hx; unfold Sm; omega⟩
 have f25' := f25 l hsw
 have f37' := f37 c
 have f21' := f21 l c h
 obtain ⟨E, hE⟩ : ∃ E, E = ovE (lst l) c (lst o) := ⟨_, rfl⟩
 obtain ⟨L, hL⟩ : ∃ L, L = ovL (lst l) c (lst o) := ⟨_, rfl⟩
 rw [← hE, ← hL]
 unfold ovL at hL
 rw [← hE] at hL
 unfold ovE at hE
 cases hr : rightW (lst l)
 ·rw [hr] at f25' hE
  rw [if_pos rfl] at hE
  have hL0 : L = [] := by rw [hL, if_neg (by rw [hE]; decide)]
  rw [hE, hL0]
  simp +contextual -implicitDefEqProofs (maxSteps := 2000000) only [↓wP, wS, seval, f25']
  rfl
 rw [hr] at f25' hE
 rw [if_neg (by decide)] at hE
 cases hc : collB c
 ·rw [hc] at f37' hE
  rw [if_pos rfl] at hE
  have hL0 : L = [] := by rw [hL, if_neg (by rw [hE]; decide)]
  rw [hE, hL0]
  simp +contextual -implicitDefEqProofs (maxSteps := 2000000) only [↓wP, wS, seval, f25', f37']
  rfl
 rw [hc] at f37' hE
 rw [if_neg (by decide)] at hE
 obtain ⟨W, hW⟩ : ∃ W, W = (lst l).filter (fun w => w.c == c) := ⟨_, rfl⟩
 have hof : ofW (lst l) c = W := by unfold ofW; rw [hr, if_pos rfl, hW]
 rw [hof] at f21'
 have hWl : W.length ≤ 12 := by
  have h1 := List.length_filter_le (fun w : Wr => w.c == c) (lst l)
  have h2 : (lst l).length ≤ 12 := by
   unfold rightW at hr
   rw [Bool.and_eq_true, decide_eq_true_eq] at hr
   exact hr.1
  rw [hW]; omega
 have hWv : ∀ x ∈ W, (lst x.v).length ≤ 1000000 := fun x hx => by rw [hW] at hx; exact h.2 x (List.mem_filter.1 hx).1
 rw [← hW] at hL
 simp +contextual -implicitDefEqProofs (maxSteps := 2000000) only [↓wP, wS, seval, f25', f37']
 refine WC_for (lst o).length 0 (fun (j : Nat) env σ n => env 0 = slV 4 wrV l ∧ env 1 = .int .i64 c ∧ env 2 = slV 2 rwV o ∧ env 21 = slV 2 rwV o ∧ roU (lst o) j = true) (by omega) (by decide) (by decide) (fun _ _ => rfl) (fun _ _ _ => rfl) ?_ ?_ _ _ _ rfl rfl ?_
 ·intro j env σ n hj h1 h2 ⟨g1, g2, g3, g4, g5⟩
  simp only [vl_tmp] at h2
  have hx : (lst o)[j]? = some (lst o)[j] := List.getElem?_eq_getElem hj
  have hst := roU_step hj
  rw [g5, Bool.true_and] at hst
  have hvx := ho.2 _ (List.getElem_mem hj)
  have hno : roN (lst o) j (lst o)[j] = false → E = 170 ∧ L = [] := fun hk => by
   have : roU (lst o) (lst o).length = false := roU_no (by rw [hst, hk]) _ (by omega : j + 1 ≤ (lst o).length)
   rw [this, if_pos rfl] at hE
   exact ⟨hE, by rw [hL, if_neg (by rw [hE]; decide)]⟩
  obtain ⟨x, hxx⟩ : ∃ x, x = (lst o)[j] := ⟨_, rfl⟩
  rw [← hxx] at hx hst hvx hno
  have f38' := f38 x.v (by omega)
  obtain ⟨σ1, hσ1⟩ : ∃ σ1, σ1 = upd (upd σ n (some (.row 2 [.agg [.int .u64 0, .nilS]]))) n (some (.row 2 [.agg [.int .u64 x.id, slV 1 i32V x.v]])) := ⟨_, rfl⟩
  have sn : σ1 n = some (.row 2 [.agg [.int .u64 x.id, slV 1 i32V x.v]]) := by rw [hσ1, upd_self]
  cases hv : okV x.v
  ·rw [hv] at f38'
   rw [if_neg (by decide)] at f38'
   obtain ⟨e1, e2⟩ := hno (by unfold roN; rw [hv]; rfl)
   have z0 : ((150 : Int) != 0) = true := rfl
   simp +contextual -implicitDefEqProofs (maxSteps := 2000000) only [↓wP, wS, seval, h1, h2, g1, g2, g3, g4, hx, rwV_eq, ← hσ1, sn, f38', z0]
   rw [e1, e2]; rfl
  rw [hv] at f38'
  rw [if_pos rfl] at f38'
  have z0 : ((0 : Int) != 0) = false := rfl
  by_cases hj0 : j = 0
  ·have hz : ¬ ((0 : Int) < (j : Int)) := by omega
   have hk : roN (lst o) j x = true := by subst hj0; unfold roN; rw [hv]; rfl
   simp +contextual -implicitDefEqProofs (maxSteps := 2000000) only [↓wP, wS, seval, h1, h2, g1, g2, g3, g4, hx, rwV_eq, ← hσ1, sn, f38', z0, hz]
   rw [hst, hk]
  ·have hz : (0 : Int) < (j : Int) := by omega
   have wj : IntKind.i64.wrap ((j : Int) - 1) = ((j - 1 : Nat) : Int) := by rw [wrap_i64] <;> omega
   have hx2 : (lst o)[j - 1]? = some (lst o)[j - 1] := List.getElem?_eq_getElem (by omega)
   obtain ⟨p, hp⟩ : ∃ p, p = (lst o)[j - 1] := ⟨_, rfl⟩
   rw [← hp] at hx2
   have hk : roN (lst o) j x = decide (p.id < x.id) := by
    obtain ⟨i, rfl⟩ : ∃ i, j = i + 1 := ⟨j - 1, by omega⟩
    unfold roN
    rw [show i + 1 - 1 = i from rfl] at hx2
    simp [hx2, hv]
   by_cases hlt : p.id < x.id
   ·have hlt' : ¬ (x.id ≤ p.id) := by omega
    rw [decide_eq_true hlt] at hk
    simp +contextual -implicitDefEqProofs (maxSteps := 2000000) only [↓wP, wS, seval, h1, h2, g1, g2, g3, g4, hx, hx2, rwV_eq, ← hσ1, sn, f38', z0, hz, wj, hlt']
    rw [hst, hk]
   ·have hlt' : x.id ≤ p.id := by omega
    rw [decide_eq_false hlt] at hk
    obtain ⟨e1, e2⟩ := hno hk
    simp +contextual -implicitDefEqProofs (maxSteps := 2000000) only [↓wP, wS, seval, h1, h2, g1, g2, g3, g4, hx, hx2, rwV_eq, ← hσ1, sn, f38', z0, hz, wj, hlt']
    rw [e1, e2]; rfl
 ·intro env σ n ⟨g1, g2, g3, g4, g5⟩ h1 h2
  rw [g5, if_neg (by decide)] at hE
  rw [hE, if_pos rfl] at hL
  have hra := ro_asc g5
  have hwi := w_ids hr c
  rw [← hW] at hwi
  obtain ⟨σ1, hσ1⟩ : ∃ σ1, σ1 = upd σ n (some (.row 1 [.nilS])) := ⟨_, rfl⟩
  have s1 : σ1 n = some (.row 1 [.nilS]) := by rw [hσ1, upd_self]
  simp +contextual -implicitDefEqProofs (maxSteps := 2000000) only [↓wP, wS, seval, g1, g2, g3, f21', ← hσ1]
  refine stepW_raw (by decide) (raw39 (oL W) o σ1 (n + 1) (by rw [lst_oL]; omega) (fun σ2 n2 k1 k2 k3 => ?_))
  simp +contextual -implicitDefEqProofs (maxSteps := 2000000) only [↓wP, wS, seval]
  refine ovLoop (d := n) (pr := n + 1 + 1) (pm := n + 1 + 3) (pw := n + 1) (mid := n + 1 + 2) o (oL W) (by omega) (by rw [lst_oL]; omega) (roU_ok g5) (by rw [lst_oL]; exact fun x hx hg => okW_v (rightW_ok hr x (by rw [hW] at hx; exact (List.mem_filter.1 hx).1)) hg) rfl rfl (by rw [k2 n (by omega)]; exact s1) k3 (by omega) (by omega) (by omega) (by omega) (by omega) (by omega) (by omega) (by omega) (by omega) (fun σ3 n3 gv P p1 p2 p3 p4 p5 => ?_)
  rw [lst_oL] at p5
  have hm := mem_ovD hra hwi
  have hnd := nodup_ovD hra hwi
  have hDl : (ovD (lst o) W).length ≤ 112 := by
   unfold ovD
   rw [List.length_append, List.length_map]
   have h1 := List.length_filter_le (fun r : Rw => !ownB W r.id) (lst o)
   have h2 := List.length_filter_le (fun x : Wr => !x.g) W
   omega
  have hLa : Asc L := by rw [hL]; exact ovR_asc _ _
  rw [← hL] at hm
  have hgc := p4.1.cells
  rw [← p5] at hm hnd hDl
  by_cases hP0 : P = []
  ·subst hP0
   have hR0 : L = [] := by
    cases L with
    | nil => rfl
    | cons r R => have := (hm r).2 List.mem_cons_self; simp at this
   have p6 := p4.1
   simp only [List.map_nil, oL, Pl] at p6
   rw [p6] at p3
   simp +contextual -implicitDefEqProofs (maxSteps := 2000000) only [↓wP, wS, seval, p3]
   refine stepW_raw (by decide) (raw41n 42 σ3 n3 ?_)
   simp +contextual -implicitDefEqProofs (maxSteps := 2000000) only [↓wP, wS, seval, p3]
   rw [hR0, hE]; rfl
  ·have hoD : oL (P.map tqV) = some (P.map tqV) := by
    cases P with
    | nil => exact absurd rfl hP0
    | cons x P => rfl
   obtain ⟨p6, p7, p8⟩ := p4
   rw [hoD] at p6
   obtain ⟨i, rfl, q1, q2, q3⟩ := p6
   rw [List.length_map] at p3 hDl
   have hPk : ∀ x ∈ P, x.2 < (⟨σ3, i⟩ : Fr).i ∧ (⟨σ3, i⟩ : Fr).σ x.2 = some (.row 1 (x.1.2.map i32V)) := fun x hx => ⟨p8 i _ _ _ rfl x hx, (p7.2 x hx).2.2⟩
   obtain ⟨fr, hfr⟩ : ∃ fr : Fr, fr = ⟨σ3, i⟩ := ⟨_, rfl⟩
   rw [← hfr] at hPk
   have hfi : fr.i = i := by rw [hfr]
   have hfs : fr.σ = σ3 := by rw [hfr]
   obtain ⟨D, hD⟩ : ∃ D, D = mkQ fr P hPk := ⟨_, rfl⟩
   have hDo : D.map ofQ = P := by rw [hD]; exact mkQ_of _ _ _
   have hDl2 : D.length = P.length := by rw [← hDo, List.length_map]
   have hDne : D ≠ [] := fun e => hP0 (by rw [← hDo, e]; rfl)
   haveI : Inhabited (Rq fr) := ⟨D.head hDne⟩
   have hsz : D.toArray.size = P.length := by simp [hDl2]
   have hrq : rq' D.toArray = P.map tqV := by unfold rq'; rw [← hDo, ofQ_V]
   have hst : Hs fr σ3 i D.toArray := ⟨by rw [hrq]; exact q1, hfi.symm, fun _ _ => by rw [hfs]⟩
   have hDr : D.map toR = P.map tqR := by rw [← hDo, ofQ_R]
   simp +contextual -implicitDefEqProofs (maxSteps := 2000000) only [↓wP, wS, seval, p3]
   refine stepW_raw (by decide) ?_
   have hr := raw41 42 (cmpQ42 fr) D.toArray i n3 σ3 (by omega) q3 hst (Q := fun v σ' n' => ∃ d' : Array (Rq fr), Hs fr σ' i d' ∧ d'.size = P.length ∧ d'.toList.map toR = L ∧ d'.toList.Perm D ∧ σ' n = σ3 n) (fun σ' d' n' r1 r2 r3 r4 r5 => by
    have hnd' : (D.toArray.toList.map (·.id)).Nodup := by
     have e : D.map (·.id) = (P.map tqR).map (·.id) := by rw [← hDr, List.map_map]; rfl
     show (D.map (·.id)).Nodup
     rw [e]; exact hnd
    obtain ⟨s1, s2⟩ := sortedQ_asc r4 r5 hnd'
    refine ⟨d', r2, by rw [r4.1, hsz], asc_uniq s1 hLa (fun x => ?_), s2, r3 n (by omega) (by omega)⟩
    rw [(s2.map toR).mem_iff, ← hm, ← hDr])
   rw [hsz] at hr
   refine run_mono _ _ _ (fun o ho => ?_) hr
   cases o <;> try exact ho.elim
   rename_i vv σ4 n4
   obtain ⟨d', r1, r2, r3, r4, r5⟩ := ho
   rw [p3] at r5
   have hlen : (d'.toList.map ofQ).length = P.length := by rw [List.length_map, ← r2, Array.length_toList]
   have g1 := frz_rowsQ (σ := σ4) (P := d'.toList.map ofQ) (i := i) (by rw [ofQ_V]; exact r1.1) (fun x hx => by
    obtain ⟨y, -, rfl⟩ := List.mem_map.1 hx
    have hk := y.hk
    show _ = some (Ob.row 1 (y.xs.map i32V))
    rw [← y.hs, ← r1.2.2 y.k (by omega)]; rfl) (fun e => by
    rw [e] at hlen
    exact hP0 (List.length_eq_zero_iff.1 hlen.symm)) 8
   rw [hlen, ofQ_R, r3] at g1
   show WR T _ _ _ _ _ _
   simp +contextual -implicitDefEqProofs (maxSteps := 2000000) only [↓wP, wS, seval, r5, g1]
   rw [hE]
 ·exact ⟨rfl, rfl, rfl, rfl, rfl⟩
def f15 (l : Option (List Wr)) (c : Int) (o : Option (List Rw)) (h : FitW (lst l)) (ho : SmRo (lst o)) := callE_tr (by decide) (r15 l c o h ho) (by simp [Tr, Tr_slV]) (by simp [Nw, Nw_slV])
end Go.Q.SU
end

section
/- An op is run. -/
namespace Go.Q.SU
open Go.Q
theorem r11 (l : Option (List Wr)) (o : Op) (hl : FitW (lst l)) (hll : (lst l).length ≤ 1000) (hv : Sm o.v) :
 ∃ x, res T 11 [opV o, slV 4 wrV l] = some x ∧ ∃ q, lst q = runL (lst l) o ∧ (runE (lst l) o ≠ 0 → q = none) ∧ x = .tup [slV 4 wrV q, .int .i64 (runE (lst l) o)] := by
 have f27' := f27 o.v hv
 have hB := big_le
 have hcl : (lst (cut o.v)).length ≤ 5 := by show ((lst o.v).take 5).length ≤ 5; rw [List.length_take]; omega
 obtain ⟨σ0, hσ0⟩ : ∃ σ0, σ0 = upd Sto.empty 0 (some (Ob.row 5 [V.agg [.bool o.d, .bool o.th, .int .i64 o.c, .int .u64 o.id, slV 1 i32V o.v]])) := ⟨_, rfl⟩
 have s0 : σ0 0 = some (Ob.row 5 [V.agg [.bool o.d, .bool o.th, .int .i64 o.c, .int .u64 o.id, slV 1 i32V o.v]]) := by rw [hσ0, upd_self]
 have x0 : ∀ hid, hide σ0 1 1 hid 0 = σ0 0 := fun hid => hide_low _ _ _ _ (by omega) (Nat.le_refl _)
 refine res_pure (fn := g11) rfl rfl (by decide) ?_
 simp only [g11, b11, zO, zN, zM, zL, zG, zP, zQ, zI, zA, zT, zF, zB, zC, zD, zE, zH, zJ, zK, opV_eq]
 unfold runE runL
 cases hd : o.d
 ·rw [hd] at s0 hσ0
  simp only [Bool.false_eq_true, if_false]
  obtain ⟨U, hU⟩ : ∃ U, U = upd σ0 1 (some (.row 1 ((lst (cut o.v)).map i32V))) := ⟨_, rfl⟩
  have u1 : U 1 = some (.row 1 ((lst (cut o.v)).map i32V)) := by rw [hU, upd_self]
  have u0 : U 0 = σ0 0 := by rw [hU, upd_ne (by decide)]
  obtain ⟨lv, σ1, n1, q, c32, h1, h2, h3, h4, h5, h6⟩ := t32 (n := 2) l o.c o.id o.v hl hll u1
  simp +contextual -implicitDefEqProofs (maxSteps := 2000000) only [↓wP, wS, seval, ← hσ0, s0, f27', ← hU, u0, c32, h3.cells, h3.one]
  refine WC_for (lst (cut o.v)).length 0 (fun (j : Nat) env σ n => env 6 = .ref 1 0 (lst (cut o.v)).length 1 ∧ env 7 = lv ∧ env 8 = .int .i64 (putE (lst l) o.c ⟨o.id, cut o.v⟩) ∧ n = n1 ∧ (∃ ys : List Int, ys.length = (lst (cut o.v)).length ∧ σ 1 = some (.row 1 (ys.map i32V))) ∧ ∀ i, 2 ≤ i → i < n1 → σ i = σ1 i) (by omega) (by decide) (by decide) (fun _ _ => rfl) (fun _ _ _ => rfl) ?_ ?_ _ _ _ rfl rfl ?_
  ·intro j env σ n hj e1 e2 ⟨g1, g2, g3, g4, ⟨ys, g5, g6⟩, g7⟩
   simp only [vl_tmp] at e2
   have hjy : j < ys.length := by omega
   have hx : (ys.map i32V)[j]? = some (.int .i32 ys[j]) := by rw [List.getElem?_map, List.getElem?_eq_getElem hjy]; rfl
   have hx2 : ∀ z : Int, (ys.map i32V).set j (.int .i32 z) = (ys.set j z).map i32V := fun z => by rw [List.map_set]; rfl
   simp +contextual -implicitDefEqProofs (maxSteps := 2000000) only [↓wP, wS, seval, e1, e2, g1, g2, g3, g6, hj, hx, hx2, bin_xor]
   exact ⟨g4, ⟨_, by rw [List.length_set]; exact g5, rfl⟩, fun i a b => by rw [if_neg (by omega)]; exact g7 i a b⟩
  ·intro env σ n ⟨g1, g2, g3, g4, ⟨ys, g5, g6⟩, g7⟩ e1 e2
   subst g4
   have hch := h3.loc (σ' := σ) (m' := 0) (n' := n) (fun i a b => g7 i a b) (by omega) (Nat.le_refl _)
   have hgp := hch.frz 8
   simp +contextual -implicitDefEqProofs (maxSteps := 2000000) only [↓wP, wS, seval, g2, g3, hch.cells, hch.one, hgp]
   exact ⟨q, h1, h2, rfl⟩
  ·simp +contextual -implicitDefEqProofs (maxSteps := 2000000) only [↓wP, wS, seval]
   exact ⟨⟨_, rfl, by rw [h6 1 (by omega)]; exact u1⟩, fun _ _ _ => trivial⟩
 ·rw [hd] at s0 hσ0
  simp only [if_true]
  have x1 : (2 ≤ 1 + BIG) = True := by simp; omega
  obtain ⟨M, hM⟩ : ∃ M, M = merge σ0 (upd σ0 1 (some (Ob.row 1 (List.map i32V (lst (cut o.v)))))) 1 := ⟨_, rfl⟩
  have m0 : M 0 = σ0 0 := by rw [hM, merge_low _ _ _ (by omega)]
  have m1 : M 1 = some (.row 1 ((lst (cut o.v)).map i32V)) := by rw [hM, merge_in _ _ _ (Nat.le_refl _) (by omega), upd_self]
  have x2 : ∀ hid, hide M 1 (1 + BIG * 1) hid 0 = M 0 := fun hid => hide_low _ _ _ _ (by omega) (by omega)
  obtain ⟨lv, σ1, n1, q, c33, h1, h2, h3, h4, h5, h6⟩ := t33 (n := 1 + BIG * 1) l o.c o.id o.v o.th hl hll m1
  simp +contextual -implicitDefEqProofs (maxSteps := 2000000) only [↓wP, wS, seval, ← hσ0, s0, x0, f27', x1, ← hM, m0, x2, c33, h3.cells, h3.one]
  have hgp := h3.frz 8
  simp +contextual -implicitDefEqProofs (maxSteps := 2000000) only [↓wP, wS, seval, hgp]
  exact ⟨q, h1, h2, rfl⟩
end Go.Q.SU
end

section
/- Some rows; rows of a collection; a row of an id; a write of a row. -/
namespace Go.Q.SU
open Go.Q Go.Sort
def cutR (r : Rw) : Rw := ⟨r.id, cut r.v⟩
def cutRs (l : Option (List Rw)) : Option (List Rw) := oL (((lst l).take 40).map cutR)
theorem cutRs_len (l : Option (List Rw)) : (lst (cutRs l)).length ≤ 40 := by unfold cutRs; rw [lst_oL, List.length_map, List.length_take]; omega
theorem cutRs_v (l : Option (List Rw)) : ∀ w ∈ lst (cutRs l), (lst w.v).length ≤ 5 := by
 intro w hw
 unfold cutRs at hw
 rw [lst_oL] at hw
 obtain ⟨x, -, rfl⟩ := List.mem_map.1 hw
 show ((lst x.v).take 5).length ≤ 5
 rw [List.length_take]; omega
theorem r14 (l : Option (List Rw)) (h : SmR l) : res T 14 [slV 2 rwV l] = some (slV 2 rwV (cutRs l)) := by
 refine run_res (run_pure (fn := g14) rfl rfl (by decide) ?_)
 simp only [g14, b14, zO, zN, zM, zL, zG, zP, zQ, zI, zA, zT, zF, zB, zC, zD, zE, zH, zJ, zK]
 have hl := h.1
 simp +contextual -implicitDefEqProofs (maxSteps := 2000000) only [↓wP, wS, seval]
 refine WC_for (lst l).length 0 (fun (j : Nat) env σ n => env 6 = slV 2 rwV l ∧ ∃ v, env 3 = v ∧ Bls σ 2 v (oL ((((lst l).take (min j 40)).map cutR).map rwV)) (fun i => i < n)) (by omega) (by decide) (by decide) (fun _ _ => rfl) (fun _ _ _ => rfl) ?_ ?_ _ _ _ rfl rfl ?_
 ·intro j env σ n hj h1 h2 ⟨h3, v, h4, h5⟩
  simp only [vl_tmp] at h2
  have hx : (lst l)[j]? = some (lst l)[j] := List.getElem?_eq_getElem hj
  have f := f27 _ (h.2 _ (List.getElem_mem hj))
  have ht : (lst l).take (j + 1) = (lst l).take j ++ [(lst l)[j]] := (List.take_append_getElem hj).symm
  generalize (lst l)[j] = x at *
  obtain ⟨σ1, hσ1⟩ : ∃ σ1, σ1 = upd (upd σ n (some (.row 2 [.agg [.int .u64 0, .nilS]]))) n (some (.row 2 [.agg [.int .u64 x.id, slV 1 i32V x.v]])) := ⟨_, rfl⟩
  have so : ∀ i, i < n → σ1 i = σ i := fun i hi => by rw [hσ1, upd_ne (by omega), upd_ne (by omega)]
  have sn : σ1 n = some (.row 2 [.agg [.int .u64 x.id, slV 1 i32V x.v]]) := by rw [hσ1, upd_self]
  by_cases h6 : (j : Int) < 40
  ·rw [show min j 40 = j by omega] at h5
   have hlen : ((((lst l).take j).map cutR).map rwV).length = j := by rw [List.length_map, List.length_map, List.length_take]; omega
   have hB := big_le
   have x3 : (n + 2 ≤ n + (1 + BIG)) = True := by simp; omega
   have x6 : (n + (1 + (BIG * 1 + 1)) ≤ n + (1 + (BIG * 1 + BIG))) = True := by simp; omega
   have x7 : ∀ a b : Sto, merge a b (n + (1 + BIG * 1)) (n + (1 + BIG * 1)) = b (n + (1 + BIG * 1)) := fun a b => merge_in a b _ (Nat.le_refl _) (by omega)
   have x5 : ∀ a b : Sto, merge a b (n + 1) (n + 1) = b (n + 1) := fun a b => merge_in a b _ (Nat.le_refl _) (by omega)
   have x0 : ∀ hid, hide σ1 (n + 1) (n + 1) hid n = σ1 n := fun hid => hide_low σ1 (n + 1) (n + 1) _ (by omega) (Nat.le_refl _)
   simp +contextual -implicitDefEqProofs (maxSteps := 2000000) only [↓wP, wS, seval, h1, h2, h3, h4, hx, rwV_eq, h6, f, ← hσ1, sn, x0, x3, x5, x6, x7]
   generalize hσ2 : merge (merge σ1 _ (n + 1)) _ (n + (1 + BIG * 1)) = σ2
   have s2 : ∀ i, i < n → σ2 i = σ i := fun i hi => by rw [← hσ2, merge_low _ _ _ (by omega), merge_low _ _ _ (by omega), so i hi]
   have sv : σ2 (n + 1) = some (.row 1 ((lst (cut x.v)).map i32V)) := by rw [← hσ2, merge_low _ _ _ (by omega), merge_in _ _ _ (Nat.le_refl _) (by omega), upd_self]
   have h5' := h5.loc (σ' := σ2) (S' := fun i => i < n) s2 (fun i hi => hi)
   refine stepW_appS (us := [rwV (cutR x)]) (S' := fun _ => True) h5' (fun i hi => by omega) (fun _ _ => trivial) trivial (fz_row (r := ⟨x.id, cut x.v⟩) sv ⟨trivial, by omega, fun off len s e => ?_⟩) ?_ (fun v' σ' n' q1 q2 q3 q4 => ?_)
   ·subst e
    have := Bls.ids h5' ⟨off, len, s, rfl⟩
    omega
   ·rw [lst_oL, hlen]; unfold LIM; simp only [List.length_cons, List.length_nil]; omega
   ·simp +contextual -implicitDefEqProofs (maxSteps := 2000000) only [↓wP, wS, seval, h1, h2, h3, q1.cells]
    refine ⟨_, rfl, ?_⟩
    rw [show min (j + 1) 40 = j + 1 by omega, ht, List.map_append, List.map_append, List.map_cons, List.map_nil, List.map_cons, List.map_nil, ← appO_oL]
    exact q1.loc (fun _ _ => rfl) (fun i hi => hi.2)
  ·simp +contextual -implicitDefEqProofs (maxSteps := 2000000) only [↓wP, wS, seval, h1, h2, h3, h4, hx, rwV_eq, h6, ← hσ1]
   rw [show min (j + 1) 40 = min j 40 by omega]
   exact ⟨_, rfl, h5.loc (fun i hi => so i hi) (fun i hi => by omega)⟩
 ·intro env σ n ⟨h3, v, h4, h5⟩ h1 h2
  have hf := h5.frz
  simp +contextual -implicitDefEqProofs (maxSteps := 2000000) only [↓wP, wS, seval, h4]
  rw [hf, slV_oL]
  have : (lst l).take (min (lst l).length 40) = (lst l).take 40 := by rw [Nat.min_comm]; exact List.take_eq_take_min.symm
  rw [this]; rfl
 ·simp +contextual -implicitDefEqProofs (maxSteps := 2000000) only [↓wP, wS, seval]
  simp [oL, Bls]
def f14 (l : Option (List Rw)) (h : SmR l) := callE_tr (by decide) (r14 l h) (by simp [Tr, Tr_slV]) (Nw_slV _ _ _ _)
theorem ro_fz {R : List Rw} : (∀ x ∈ R.map rwV, Tr 11 x = true) ∧ ∀ x ∈ R.map rwV, ∀ c ∈ x.cells, Tr 11 c = true := by
 refine ⟨fun x hx => by obtain ⟨y, -, rfl⟩ := List.mem_map.1 hx; simp [rwV_eq, Tr, Tr_slV], fun x hx c hc => ?_⟩
 obtain ⟨y, -, rfl⟩ := List.mem_map.1 hx
 simp only [rwV_eq, V.cells, List.mem_cons, List.not_mem_nil, or_false] at hc
 rcases hc with rfl | rfl
 ·rfl
 ·exact Tr_slV _ _ _ _
def blB (c : Int) (r : Rw) : Bool := r.id.tmod 3 == IntKind.u64.wrap c
theorem r23 (l : Option (List Rw)) (c : Int) (h : (lst l).length ≤ 1000) : res T 23 [slV 2 rwV l, .int .i64 c] = some (slV 2 rwV (oL ((lst l).filter (blB c)))) := by
 refine run_res (run_pure (fn := g23) rfl rfl (by decide) ?_)
 simp only [g23, b23, zO, zN, zM, zL, zG, zP, zQ, zI, zA, zT, zF, zB, zC, zD, zE, zH, zJ, zK]
 have hr : ∀ (k : IntKind) (a : Int), binV .rem (.int k a) (.int k 3) = some (.int k (a.tmod 3)) := fun k a => bin_rem k a 3 (by decide)
 simp +contextual -implicitDefEqProofs (maxSteps := 2000000) only [↓wP, wS, seval]
 refine WC_for (lst l).length 0 (fun (j : Nat) env σ n => env 1 = .int .i64 c ∧ env 8 = slV 2 rwV l ∧ ∃ v, env 5 = v ∧ Pl σ 0 n 2 v (oL ((((lst l).take j).filter (blB c)).map rwV))) (by omega) (by decide) (by decide) (fun _ _ => rfl) (fun _ _ _ => rfl) ?_ ?_ _ _ _ rfl rfl ?_
 ·intro j env σ n hj h1 h2 ⟨h0, h3, v, h4, h5⟩
  simp only [vl_tmp] at h2
  have hx : (lst l)[j]? = some (lst l)[j] := List.getElem?_eq_getElem hj
  have ht : (lst l).take (j + 1) = (lst l).take j ++ [(lst l)[j]] := (List.take_append_getElem hj).symm
  generalize (lst l)[j] = x at *
  have hlen : ((((lst l).take j).filter (blB c)).map rwV).length ≤ j := by
   rw [List.length_map]
   have := List.length_filter_le (blB c) ((lst l).take j)
   rw [List.length_take] at this
   omega
  have hfs : ((lst l).take (j + 1)).filter (blB c) = ((lst l).take j).filter (blB c) ++ if blB c x = true then [x] else [] := by
   rw [ht, List.filter_append]
   congr 1
   simp only [List.filter_cons, List.filter_nil]
  have hsp := spl h5
  have hc := h5.cells
  obtain ⟨σ1, hσ1⟩ : ∃ σ1, σ1 = upd (upd σ n (some (.row 2 [.agg [.int .u64 0, .nilS]]))) n (some (.row 2 [.agg [.int .u64 x.id, slV 1 i32V x.v]])) := ⟨_, rfl⟩
  have so : ∀ i, i < n → σ1 i = σ i := fun i hi => by rw [hσ1, upd_ne (by omega), upd_ne (by omega)]
  have sn : σ1 n = some (.row 2 [.agg [.int .u64 x.id, slV 1 i32V x.v]]) := by rw [hσ1, upd_self]
  cases hk : blB c x
  ·rw [hk] at hfs
   have hk' : (x.id.tmod 3 == IntKind.u64.wrap c) = false := hk
   simp only [Bool.false_eq_true, if_false, List.append_nil] at hfs
   simp +contextual -implicitDefEqProofs (maxSteps := 2000000) only [↓wP, wS, seval, h1, h2, h0, h3, h4, hx, rwV_eq, ← hσ1, sn, hr, hk']
   rw [hfs]
   exact ⟨_, rfl, h5.loc (fun i a b => so i b) (by omega)⟩
  ·rw [hk] at hfs
   have hk' : (x.id.tmod 3 == IntKind.u64.wrap c) = true := hk
   simp only [if_true] at hfs
   simp +contextual -implicitDefEqProofs (maxSteps := 2000000) only [↓wP, wS, seval, h1, h2, h0, h3, h4, hx, rwV_eq, ← hσ1, sn, hr, hk']
   refine stepW_app1 (m := 0) (n0 := n) (σ0 := σ) h5 (fun i g1 g2 => ?_) (by omega) (by omega) (Nat.zero_le _) ?_ (fun _ σ2 g1 g2 => ?_)
   ·rw [upd_ne (by omega), so i g2]
   ·rw [lst_oL]; unfold LIM; omega
   ·rw [lst_oL] at g1 ⊢
    simp +contextual -implicitDefEqProofs (maxSteps := 2000000) only [↓wP, wS, seval, h1, h2, h0, h3, hc, hsp]
    refine ⟨_, rfl, ?_⟩
    rw [hfs, List.map_append]
    have e2 : oL ((((lst l).take j).filter (blB c)).map rwV ++ [x].map rwV) = some ((((lst l).take j).filter (blB c)).map rwV ++ [rwV x]) := by
     cases ((lst l).take j).filter (blB c) <;> rfl
    rw [e2]
    exact g1
 ·intro env σ n ⟨h0, h3, v, h4, h5⟩ h1 h2
  rw [List.take_length] at h5
  have hf := h5.frz (by rw [lst_oL]; exact ro_fz.1) (by rw [lst_oL]; exact ro_fz.2)
  simp +contextual -implicitDefEqProofs (maxSteps := 2000000) only [↓wP, wS, seval, h4]
  rw [hf, slV_oL]
 ·simp +contextual -implicitDefEqProofs (maxSteps := 2000000) only [↓wP, wS, seval]
  simp [oL, Pl]
def f23 (l : Option (List Rw)) (c : Int) (h : (lst l).length ≤ 1000) := callE_tr (by decide) (r23 l c h) (by simp [Tr, Tr_slV]) (Nw_slV _ _ _ _)
def frV (o : Option Rw) : V := .tup [match o with | some x => rwV x | none => .agg [.int .u64 0, .nilS], .bool o.isSome]
theorem r24 (w : Option (List Rw)) (id : Int) (h : (lst w).length ≤ 1000000) : res T 24 [slV 2 rwV w, .int .u64 id] = some (frV ((lst w).find? fun x => x.id == id)) := by
 refine run_res (run_pure (fn := g24) rfl rfl (by decide) ?_)
 simp only [g24, b24, zO, zN, zM, zL, zG, zP, zQ, zI, zA, zT, zF, zB, zC, zD, zE, zH, zJ, zK]
 simp +contextual -implicitDefEqProofs (maxSteps := 2000000) only [↓wP, wS, seval]
 refine WC_for (lst w).length 0 (fun (j : Nat) env σ n => env 1 = .int .u64 id ∧ env 4 = .ptr 0 2 0 0 ∧ env 8 = slV 2 rwV w ∧ 1 ≤ n ∧ σ 0 = some (.row 2 [.agg [.int .u64 0, .nilS]]) ∧ ((lst w).find? fun x => x.id == id) = (((lst w).drop j).find? fun x => x.id == id)) (by omega) (by decide) (by decide) (fun _ _ => rfl) (fun _ _ _ => rfl) ?_ ?_ _ _ _ rfl rfl ?_
 ·intro j env σ n hj h1 h2 ⟨g2, g3, g4, g5, g6, g7⟩
  simp only [vl_tmp] at h2
  have hx : (lst w)[j]? = some (lst w)[j] := List.getElem?_eq_getElem hj
  rw [List.drop_eq_getElem_cons hj, List.find?_cons] at g7
  generalize (lst w)[j] = x at *
  obtain ⟨σ1, hσ1⟩ : ∃ σ1, σ1 = upd (upd σ n (some (.row 2 [.agg [.int .u64 0, .nilS]]))) n (some (.row 2 [.agg [.int .u64 x.id, slV 1 i32V x.v]])) := ⟨_, rfl⟩
  have so : ∀ i, i < n → σ1 i = σ i := fun i hi => by rw [hσ1, upd_ne (by omega), upd_ne (by omega)]
  have sn : σ1 n = some (.row 2 [.agg [.int .u64 x.id, slV 1 i32V x.v]]) := by rw [hσ1, upd_self]
  have s0 : σ1 0 = some (.row 2 [.agg [.int .u64 0, .nilS]]) := by rw [so 0 (by omega)]; exact g6
  have q0 : (n = 0) = False := by simp; omega
  cases hk2 : (x.id == id)
  ·rw [hk2] at g7
   simp only [] at g7
   simp +contextual -implicitDefEqProofs (maxSteps := 2000000) only [↓wP, wS, seval, h1, h2, g2, g3, g4, hx, rwV_eq, ← hσ1, sn, s0, hk2]
   exact g7
  ·rw [hk2] at g7
   simp only [] at g7
   simp +contextual -implicitDefEqProofs (maxSteps := 2000000) only [↓wP, wS, seval, h1, h2, g2, g3, g4, hx, rwV_eq, ← hσ1, sn, s0, hk2]
   rw [g7]; rfl
 ·intro env σ n ⟨g2, g3, g4, g5, g6, g7⟩ h1 h2
  rw [List.drop_length] at g7
  simp +contextual -implicitDefEqProofs (maxSteps := 2000000) only [↓wP, wS, seval, g3, g6]
  rw [g7]; rfl
 ·simp +contextual -implicitDefEqProofs (maxSteps := 2000000) only [↓wP, wS, seval]
def f24 (w : Option (List Rw)) (id : Int) (h : (lst w).length ≤ 1000000) := callE_tr (by decide) (r24 w id h) (by simp [Tr, Tr_slV]) (by unfold frV; cases (lst w).find? fun x => x.id == id <;> simp [Nw, rwV_eq, Nw_slV])
def findE (l : List Wr) (c id : Int) : Option Wr := if rightW l = true then l.find? fun x => x.c == c && x.id == id else none
theorem r28 (w : Option (List Wr)) (c id : Int) (h : (lst w).length ≤ 1000000) (hw : SmW w) : res T 28 [slV 4 wrV w, .int .i64 c, .int .u64 id] = some (fdV (findE (lst w) c id)) := by
 refine run_res (run_pure (fn := g28) rfl rfl (by decide) ?_)
 simp only [g28, b28, zO, zN, zM, zL, zG, zP, zQ, zI, zA, zT, zF, zB, zC, zD, zE, zH, zJ, zK]
 have f1 := f49 w ⟨c, id, false, none⟩ h
 have f2 := f25 w hw
 have hk : wrV ⟨c, id, false, none⟩ = .agg [.int .i64 c, .int .u64 id, .bool false, .nilS] := rfl
 rw [hk] at f1
 unfold findE
 cases hr : rightW (lst w)
 ·rw [hr] at f2
  cases hb : bsB (lst w) ⟨c, id, false, none⟩
  ·rw [hb] at f1
   simp +contextual -implicitDefEqProofs (maxSteps := 2000000) only [↓wP, wS, seval, f1, f2]
   rfl
  ·rw [hb] at f1
   simp +contextual -implicitDefEqProofs (maxSteps := 2000000) only [↓wP, wS, seval, f1, f2]
   rfl
 ·rw [hr] at f2
  have hf := bs_find (k := ⟨c, id, false, none⟩) (w_pair hr)
  simp only at hf
  simp only [if_true, hf]
  cases hb : bsB (lst w) ⟨c, id, false, none⟩
  ·rw [hb] at f1
   simp +contextual -implicitDefEqProofs (maxSteps := 2000000) only [↓wP, wS, seval, f1, f2]
   rfl
  ·rw [hb] at f1
   have hpl : bsP (lst w) ⟨c, id, false, none⟩ < (lst w).length := by
    unfold bsB at hb
    split at hb
    ·rename_i x hx; exact (List.getElem?_eq_some_iff.1 hx).1
    ·cases hb
   have hx : (lst w)[bsP (lst w) ⟨c, id, false, none⟩]? = some (lst w)[bsP (lst w) ⟨c, id, false, none⟩] := List.getElem?_eq_getElem hpl
   generalize (lst w)[bsP (lst w) ⟨c, id, false, none⟩] = x at *
   simp +contextual -implicitDefEqProofs (maxSteps := 2000000) only [↓wP, wS, seval, f1, f2, hx, wrV_eq]
   rfl
def f28 (w : Option (List Wr)) (c id : Int) (h : (lst w).length ≤ 1000000) (hw : SmW w) := callE_tr (by decide) (r28 w c id h hw) (by simp [Tr, Tr_slV]) (by unfold fdV; cases findE (lst w) c id <;> simp [Nw, wrV_eq, Nw_slV])
end Go.Q.SU
end

section
/- What was written is seen: plain laws. -/
namespace Go.Q.SU
open Go.Q Go.Sort
theorem roU_of {l : List Rw} (ha : Asc l) (hv : ∀ r ∈ l, okV r.v = true) : roU l l.length = true := by
 have key : ∀ n, n ≤ l.length → roU l n = true := by
  intro n
  induction n with
  | zero => intro _; rfl
  | succ n ih =>
    intro hn
    rw [roU_step (by omega : n < l.length), ih (by omega), Bool.true_and]
    unfold roN
    rw [hv _ (List.getElem_mem _), Bool.true_and]
    cases n with
    | zero => rfl
    | succ j =>
      have := (List.pairwise_iff_getElem.1 ha) j (j + 1) (by omega) (by omega) (by omega)
      simp only [List.getElem?_eq_getElem (show j < l.length by omega), decide_eq_true_eq]
      exact this
 exact key _ (Nat.le_refl _)
theorem rightW_of {l : List Wr} (hn : l.length ≤ 12) (h1 : ∀ w ∈ l, okW w = true) (h2 : l.Pairwise fun a b => bef a b = true) : rightW l = true := by
 have key : ∀ n, n ≤ l.length → wU l n = true := by
  intro n
  induction n with
  | zero => intro _; rfl
  | succ n ih =>
    intro hn
    rw [wU_step (by omega : n < l.length), ih (by omega), Bool.true_and]
    unfold okN
    rw [h1 _ (List.getElem_mem _), Bool.true_and]
    cases n with
    | zero => rfl
    | succ j =>
      have := (List.pairwise_iff_getElem.1 h2) j (j + 1) (by omega) (by omega) (by omega)
      simp only [List.getElem?_eq_getElem (show j < l.length by omega)]
      exact this
 unfold rightW
 rw [key _ (Nat.le_refl _), decide_eq_true hn]; rfl
theorem roU_filter {l : List Rw} (h : roU l l.length = true) (p : Rw → Bool) : roU (l.filter p) (l.filter p).length = true :=
 roU_of ((ro_asc h).filter p) (fun r hr => roU_ok h r (List.mem_filter.1 hr).1)
theorem key_uniq {l : List Wr} (hs : l.Pairwise fun a b => bef a b = true) {a b : Wr} (ha : a ∈ l) (hb : b ∈ l) (hc : a.c = b.c) (hi : a.id = b.id) : a = b := by
 obtain ⟨i, hi1, rfl⟩ := List.getElem_of_mem ha
 obtain ⟨j, hj1, rfl⟩ := List.getElem_of_mem hb
 have h := List.pairwise_iff_getElem.1 hs
 rcases Nat.lt_trichotomy i j with h1 | h1 | h1
 ·exact absurd (by unfold key; rw [hc, hi]) (bef_key (h i j hi1 hj1 h1))
 ·subst h1; rfl
 ·exact absurd (by unfold key; rw [hc, hi]) (bef_key (h j i hj1 hi1 h1))
def sawB (l : List Wr) (c id : Int) (th : Bool) : Bool := match l.find? (fun x => x.c == c && x.id == id) with | some x => !x.g | none => th
theorem saw (l : List Wr) (o : Op) (hr : rightW l = true) : delE0 l (opK o) o.th = (if sawB l o.c o.id o.th = false then 4 else if o.th = false then 0 else layEw l (bsB l (opK o))) ∧
 delL0 l (opK o) o.th = (if sawB l o.c o.id o.th = false then l else if o.th = false then l.take (bsP l (opK o)) ++ l.drop (bsP l (opK o) + 1) else layLw l (bsP l (opK o)) (bsB l (opK o)) ⟨o.c, o.id, true, none⟩) := by
 have hf := bs_find (k := opK o) (w_pair hr)
 have hf' : (l.find? fun x => x.c == o.c && x.id == o.id) = if bsB l (opK o) = true then l[bsP l (opK o)]? else none := hf
 have hck : (opK o).c = o.c := rfl
 have hik : (opK o).id = o.id := rfl
 obtain ⟨A, M, D, e1, e2, e3, e4, e5⟩ := bs_split (opK o) (w_pair hr)
 unfold delE0 delL0 sawB
 rw [hf', hck, hik]
 rcases e5 with ⟨hB, x, rfl, f1, f2⟩ | ⟨hB, rfl⟩
 ·have : l[bsP l (opK o)]? = some x := by rw [← e2, e1, List.getElem?_append_right (Nat.le_refl _), Nat.sub_self]; rfl
  rw [hB]
  simp only [if_true, this, and_self]
 ·rw [hB]
  simp only [Bool.false_eq_true, if_false, and_self]
theorem mem_ovR {R : List Rw} (hR : Asc R) {l : List Wr} (hr : rightW l = true) (c : Int) (x : Rw) : x ∈ ovR R (l.filter fun w => w.c == c) ↔ (x ∈ R ∧ ∀ w ∈ l, w.c = c → w.id ≠ x.id) ∨ ∃ w ∈ l, w.c = c ∧ w.g = false ∧ x = ⟨w.id, w.v⟩ := by
 unfold ovR
 rw [fold_put hR, mem_ov ((w_ids hr c).imp fun h => by omega)]
 constructor
 ·rintro (⟨h1, h2⟩ | ⟨w, h1, h2, h3⟩)
  ·exact .inl ⟨h1, fun w hw hc => h2 w (List.mem_filter.2 ⟨hw, by simp [hc]⟩)⟩
  ·obtain ⟨h4, h5⟩ := List.mem_filter.1 h1
   exact .inr ⟨w, h4, by simpa using h5, h2, h3⟩
 ·rintro (⟨h1, h2⟩ | ⟨w, h1, hc, h2, h3⟩)
  ·refine .inl ⟨h1, fun w hw => ?_⟩
   obtain ⟨h4, h5⟩ := List.mem_filter.1 hw
   exact h2 w h4 (by simpa using h5)
  ·exact .inr ⟨w, List.mem_filter.2 ⟨h1, by simp [hc]⟩, h2, h3⟩
theorem find_asc {S : List Rw} (h : Asc S) {x : Rw} (hx : x ∈ S) : (S.find? fun y => y.id == x.id) = some x := by
 cases hf : S.find? (fun y => y.id == x.id) with
 | none => exact absurd (List.find?_eq_none.1 hf x hx) (by simp)
 | some y =>
   have h1 := List.find?_some hf
   have h2 := List.mem_of_find?_eq_some hf
   simp only [beq_iff_eq] at h1
   obtain ⟨i, hi, rfl⟩ := List.getElem_of_mem hx
   obtain ⟨j, hj, rfl⟩ := List.getElem_of_mem h2
   have h3 := List.pairwise_iff_getElem.1 h
   rcases Nat.lt_trichotomy i j with h4 | h4 | h4
   ·have := h3 i j hi hj h4; omega
   ·subst h4; rfl
   ·have := h3 j i hj hi h4; omega
theorem find_none {S : List Rw} {id : Int} : (S.find? fun y => y.id == id) = none ↔ ∀ x ∈ S, x.id ≠ id := by
 rw [List.find?_eq_none]
 exact ⟨fun h x hx => by simpa using h x hx, fun h x hx => by simpa using h x hx⟩
theorem seen_was {R : List Rw} (hR : Asc R) {l : List Wr} (hr : rightW l = true) (c id : Int) : ((ovR R (l.filter fun w => w.c == c)).find? fun y => y.id == id).isSome = sawB l c id (R.find? fun y => y.id == id).isSome := by
 have hm := mem_ovR hR hr c
 unfold sawB
 cases hf : l.find? (fun x => x.c == c && x.id == id) with
 | none =>
   have h0 : ∀ w ∈ l, w.c = c → w.id ≠ id := fun w hw hc hi => by
    have := List.find?_eq_none.1 hf w hw
    simp [hc, hi] at this
   cases hq : R.find? (fun y => y.id == id) with
   | none =>
     have h1 := find_none.1 hq
     have : ((ovR R (l.filter fun w => w.c == c)).find? fun y => y.id == id) = none := find_none.2 fun x hx => by
      rcases (hm x).1 hx with ⟨h2, h3⟩ | ⟨w, h2, h3, h4, rfl⟩
      ·exact h1 x h2
      ·exact h0 w h2 h3
     rw [this]
   | some y =>
     have h1 := List.find?_some hq
     have h2 := List.mem_of_find?_eq_some hq
     simp only [beq_iff_eq] at h1
     subst h1
     have h3 : y ∈ ovR R (l.filter fun w => w.c == c) := (hm y).2 (.inl ⟨h2, h0⟩)
     rw [find_asc (ovR_asc _ _) h3]
 | some z =>
   have h1 := List.find?_some hf
   have h2 := List.mem_of_find?_eq_some hf
   simp only [Bool.and_eq_true, beq_iff_eq] at h1
   obtain ⟨rfl, rfl⟩ := h1
   simp only
   cases hg : z.g
   ·have h3 : (⟨z.id, z.v⟩ : Rw) ∈ ovR R (l.filter fun w => w.c == z.c) := (hm _).2 (.inr ⟨z, h2, rfl, hg, rfl⟩)
    have := find_asc (ovR_asc _ _) h3
    simp only at this
    rw [this]; rfl
   ·have : ((ovR R (l.filter fun w => w.c == z.c)).find? fun y => y.id == z.id) = none := find_none.2 fun x hx e => by
     rcases (hm x).1 hx with ⟨h4, h5⟩ | ⟨w, h4, h5, h6, rfl⟩
     ·exact h5 z h2 rfl e.symm
     ·have := key_uniq (w_pair hr) h4 h2 h5 e
      rw [this, hg] at h6; cases h6
    rw [this]; rfl
def Nx (l l' : List Wr) (c id : Int) (M' : List Wr) : Prop := ∃ A M D, l = A ++ (M ++ D) ∧ l' = A ++ (M' ++ D) ∧ (∀ a ∈ A, ∀ k : Wr, k.c = c → k.id = id → bef a k = true) ∧ (∀ d ∈ D, ∀ k : Wr, k.c = c → k.id = id → bef k d = true) ∧ (∀ x ∈ M, x.c = c ∧ x.id = id) ∧ (∀ x ∈ M', x.c = c ∧ x.id = id)
theorem bef_eq {a b c : Wr} (h1 : b.c = c.c) (h2 : b.id = c.id) : bef a b = bef a c ∧ bef b a = bef c a := by
 unfold bef; rw [h1, h2]; exact ⟨rfl, rfl⟩
theorem nx_split {l : List Wr} (hr : rightW l = true) (k : Wr) : ∃ A M D, l = A ++ (M ++ D) ∧ A.length = bsP l k ∧ (∀ a ∈ A, ∀ k' : Wr, k'.c = k.c → k'.id = k.id → bef a k' = true) ∧ (∀ d ∈ D, ∀ k' : Wr, k'.c = k.c → k'.id = k.id → bef k' d = true) ∧ (∀ x ∈ M, x.c = k.c ∧ x.id = k.id) ∧ ((bsB l k = true ∧ ∃ x, M = [x]) ∨ (bsB l k = false ∧ M = [])) := by
 obtain ⟨A, M, D, e1, e2, e3, e4, e5⟩ := bs_split k (w_pair hr)
 refine ⟨A, M, D, e1, e2, fun a ha k' h1 h2 => by rw [(bef_eq h1 h2).1]; exact e3 a ha, fun d hd k' h1 h2 => by rw [(bef_eq h1 h2).2]; exact e4 d hd, ?_, ?_⟩
 ·rcases e5 with ⟨-, x, rfl, f1, f2⟩ | ⟨-, rfl⟩
  ·intro y hy; simp only [List.mem_cons, List.not_mem_nil, or_false] at hy; subst hy; exact ⟨f1, f2⟩
  ·intro y hy; simp at hy
 ·rcases e5 with ⟨h, x, rfl, f1, f2⟩ | ⟨h, rfl⟩
  ·exact .inl ⟨h, x, rfl⟩
  ·exact .inr ⟨h, rfl⟩
theorem lay_next {l : List Wr} {k w : Wr} (hr : rightW l = true) (hc : w.c = k.c) (hi : w.id = k.id) (h0 : layEw l (bsB l k) = 0) : Nx l (layLw l (bsP l k) (bsB l k) w) k.c k.id [w] ∧ (layLw l (bsP l k) (bsB l k) w).length ≤ 12 := by
 obtain ⟨A, M, D, e1, e2, e3, e4, e5, e6⟩ := nx_split hr k
 have hlen := rightW_len hr
 have hM' : ∀ x ∈ [w], x.c = k.c ∧ x.id = k.id := by intro y hy; simp only [List.mem_cons, List.not_mem_nil, or_false] at hy; subst hy; exact ⟨hc, hi⟩
 rcases e6 with ⟨hB, x, rfl⟩ | ⟨hB, rfl⟩
 ·have hl : layLw l (bsP l k) (bsB l k) w = A ++ ([w] ++ D) := by
   unfold layLw
   rw [hB, if_pos rfl, ← e2, e1, map_set_mid]; rfl
  have hll := congrArg List.length e1
  simp only [List.length_append, List.length_cons, List.length_nil] at hll
  exact ⟨⟨A, [x], D, e1, hl, e3, e4, e5, hM'⟩, by rw [hl]; simp only [List.length_append, List.length_cons, List.length_nil]; omega⟩
 ·unfold layEw at h0
  rw [hB] at h0
  simp only [Bool.false_eq_true, if_false] at h0
  have h12 : l.length ≠ 12 := fun e => by rw [if_pos e] at h0; cases h0
  have hl : layLw l (bsP l k) (bsB l k) w = A ++ ([w] ++ D) := by
   unfold layLw insW
   rw [hB]
   simp only [Bool.false_eq_true, if_false, h12]
   rw [← e2, e1, List.take_left, List.drop_left]; rfl
  have hll := congrArg List.length e1
  simp only [List.length_append, List.length_nil] at hll
  exact ⟨⟨A, [], D, e1, hl, e3, e4, e5, hM'⟩, by rw [hl]; simp only [List.length_append, List.length_cons, List.length_nil]; omega⟩
theorem Nx.right {l l' : List Wr} {c id : Int} {M' : List Wr} (h : Nx l l' c id M') (hr : rightW l = true) (hn : l'.length ≤ 12) (hok : ∀ w ∈ M', okW w = true) (h1 : M'.length ≤ 1) : rightW l' = true := by
 obtain ⟨A, M, D, e1, e2, e3, e4, e5, e6⟩ := h
 have hp := w_pair hr
 have hk := rightW_ok hr
 rw [e1] at hp hk
 refine rightW_of hn (fun w hw => ?_) ?_
 ·rw [e2] at hw
  rcases List.mem_append.1 hw with hw | hw
  ·exact hk w (List.mem_append.2 (.inl hw))
  ·rcases List.mem_append.1 hw with hw | hw
   ·exact hok w hw
   ·exact hk w (List.mem_append.2 (.inr (List.mem_append.2 (.inr hw))))
 ·rw [e2]
  have p1 := List.pairwise_append.1 hp
  have p2 := List.pairwise_append.1 p1.2.1
  refine List.pairwise_append.2 ⟨p1.1, List.pairwise_append.2 ⟨?_, p2.2.1, fun a ha b hb => e4 b hb a (e6 a ha).1 (e6 a ha).2⟩, fun a ha b hb => ?_⟩
  ·match M', h1 with
   | [], _ => exact List.Pairwise.nil
   | [w], _ => exact List.pairwise_singleton _ _
  ·rcases List.mem_append.1 hb with hb | hb
   ·exact e3 a ha b (e6 b hb).1 (e6 b hb).2
   ·exact p1.2.2 a ha b (List.mem_append.2 (.inr hb))
theorem Nx.other {l l' : List Wr} {c id n : Int} {M' : List Wr} (h : Nx l l' c id M') (hn : n ≠ c) : (l'.filter fun w => w.c == n) = l.filter fun w => w.c == n := by
 obtain ⟨A, M, D, e1, e2, e3, e4, e5, e6⟩ := h
 have hz : ∀ L : List Wr, (∀ x ∈ L, x.c = c ∧ x.id = id) → (L.filter fun w => w.c == n) = [] := fun L hL => List.filter_eq_nil_iff.2 fun x hx => by
  rw [(hL x hx).1]; simp; exact fun e => hn e.symm
 rw [e1, e2, List.filter_append, List.filter_append, List.filter_append, List.filter_append, hz M e5, hz M' e6]
theorem Nx.mem {l l' : List Wr} {c id : Int} {M' : List Wr} (h : Nx l l' c id M') (w : Wr) (hw : ¬ (w.c = c ∧ w.id = id)) : w ∈ l' ↔ w ∈ l := by
 obtain ⟨A, M, D, e1, e2, e3, e4, e5, e6⟩ := h
 have h1 : w ∉ M := fun hm => hw (e5 w hm)
 have h2 : w ∉ M' := fun hm => hw (e6 w hm)
 rw [e1, e2]
 simp [h1, h2]
theorem Nx.own {l l' : List Wr} {c id : Int} {M' : List Wr} (h : Nx l l' c id M') (w : Wr) (hc : w.c = c) (hi : w.id = id) : w ∈ l' ↔ w ∈ M' := by
 obtain ⟨A, M, D, e1, e2, e3, e4, e5, e6⟩ := h
 have h1 : w ∉ A := fun hm => bef_key (e3 w hm w hc hi) rfl
 have h2 : w ∉ D := fun hm => bef_key (e4 w hm w hc hi) rfl
 rw [e2]
 simp [h1, h2]
theorem Nx.rest {l l' : List Wr} {c id : Int} {M' : List Wr} (h : Nx l l' c id M') (hr : rightW l = true) (hr' : rightW l' = true) {R : List Rw} (hR : Asc R) :
 delR (ovR R (l'.filter fun w => w.c == c)) id = delR (ovR R (l.filter fun w => w.c == c)) id := by
 refine asc_uniq (asc_delR (ovR_asc _ _) id) (asc_delR (ovR_asc _ _) id) (fun x => ?_)
 rw [mem_delR, mem_delR, mem_ovR hR hr', mem_ovR hR hr]
 constructor
 ·rintro ⟨⟨h1, h2⟩ | ⟨w, h1, h2, h3, rfl⟩, h4⟩
  ·refine ⟨.inl ⟨h1, fun w hw hc e => ?_⟩, h4⟩
   exact h2 w ((h.mem w (fun q => h4 (by rw [← e]; exact q.2))).2 hw) hc e
  ·exact ⟨.inr ⟨w, (h.mem w (fun q => h4 q.2)).1 h1, h2, h3, rfl⟩, h4⟩
 ·rintro ⟨⟨h1, h2⟩ | ⟨w, h1, h2, h3, rfl⟩, h4⟩
  ·refine ⟨.inl ⟨h1, fun w hw hc e => ?_⟩, h4⟩
   exact h2 w ((h.mem w (fun q => h4 (by rw [← e]; exact q.2))).1 hw) hc e
  ·exact ⟨.inr ⟨w, (h.mem w (fun q => h4 q.2)).2 h1, h2, h3, rfl⟩, h4⟩
theorem Nx.row {l l' : List Wr} {c id : Int} {M' : List Wr} (h : Nx l l' c id M') (hr' : rightW l' = true) {R : List Rw} (hR : Asc R) (hn : M' = [] → ∀ r ∈ R, r.id ≠ id) :
 ((ovR R (l'.filter fun w => w.c == c)).find? fun y => y.id == id) = match M' with | w :: _ => if w.g = true then none else some ⟨id, w.v⟩ | [] => none := by
 have hm := mem_ovR hR hr' c
 cases M' with
 | nil =>
   refine find_none.2 fun x hx e => ?_
   rcases (hm x).1 hx with ⟨h1, h2⟩ | ⟨w, h1, h2, h3, rfl⟩
   ·exact hn rfl x h1 e
   ·exact absurd ((h.own w h2 e).1 h1) (by simp)
 | cons w M' =>
   have h9 := h
   obtain ⟨A, M, D, e1, e2, e3, e4, e5, e6⟩ := h9
   obtain ⟨hc, hi⟩ := e6 w List.mem_cons_self
   have hw : w ∈ l' := (h.own w hc hi).2 List.mem_cons_self
   simp only
   cases hg : w.g
   ·have h3 : (⟨w.id, w.v⟩ : Rw) ∈ ovR R (l'.filter fun w => w.c == c) := (hm _).2 (.inr ⟨w, hw, hc, hg, rfl⟩)
    have := find_asc (ovR_asc _ _) h3
    simp only [hi] at this
    rw [this]; rfl
   ·rw [if_pos rfl]
    refine find_none.2 fun x hx e => ?_
    rcases (hm x).1 hx with ⟨h1, h2⟩ | ⟨z, h1, h2, h3, rfl⟩
    ·exact h2 w hw hc (by rw [hi, e])
    ·have := key_uniq (w_pair hr') h1 hw (by rw [h2, hc]) (by rw [hi]; exact e)
     rw [this, hg] at h3; cases h3
theorem Nx.find {l l' : List Wr} {c id : Int} {M' : List Wr} (h : Nx l l' c id M') (hr' : rightW l' = true) : findE l' c id = M'.head? := by
 unfold findE
 rw [if_pos hr']
 cases M' with
 | nil =>
   refine List.find?_eq_none.2 fun w hw => ?_
   simp only [Bool.and_eq_true, beq_iff_eq, not_and]
   exact fun hc hi => absurd ((h.own w hc hi).1 hw) (by simp)
 | cons w M' =>
   have h9 := h
   obtain ⟨A, M, D, e1, e2, e3, e4, e5, e6⟩ := h9
   obtain ⟨hc, hi⟩ := e6 w List.mem_cons_self
   have hw : w ∈ l' := (h.own w hc hi).2 List.mem_cons_self
   cases hf : l'.find? (fun x => x.c == c && x.id == id) with
   | none => exact absurd (List.find?_eq_none.1 hf w hw) (by simp [hc, hi])
   | some y =>
     have h1 := List.find?_some hf
     have h2 := List.mem_of_find?_eq_some hf
     simp only [Bool.and_eq_true, beq_iff_eq] at h1
     rw [key_uniq (w_pair hr') h2 hw (by rw [h1.1, hc]) (by rw [h1.2, hi])]; rfl
theorem del_len {S : List Rw} (h : Asc S) (a : Int) : S.length ≤ (delR S a).length + 1 := by
 cases hf : S.find? (fun y => y.id == a) with
 | none =>
   have h1 := find_none.1 hf
   have : delR S a = S := by
    unfold delR
    exact List.filter_eq_self.2 fun x hx => by simpa using h1 x hx
   rw [this]; omega
 | some x =>
   have h1 := List.find?_some hf
   have h2 := List.mem_of_find?_eq_some hf
   simp only [beq_iff_eq] at h1
   have : S = putR (delR S a) x := asc_uniq h (asc_putR (asc_delR h a) x) (fun y => by
    rw [mem_putR, mem_delR]
    constructor
    ·intro hy
     by_cases e : y.id = a
     ·have g1 := find_asc h hy
      have g2 := find_asc h h2
      rw [e] at g1
      rw [h1] at g2
      rw [g1] at g2
      exact .inl (Option.some.inj g2)
     ·exact .inr ⟨⟨hy, e⟩, by rw [h1]; exact e⟩
    ·rintro (rfl | ⟨⟨h3, -⟩, -⟩)
     ·exact h2
     ·exact h3)
   have h4 := putR_len (delR S a) x
   rw [← this] at h4
   exact h4
theorem Nx.len {l l' : List Wr} {c id : Int} {M' : List Wr} (h : Nx l l' c id M') (hr : rightW l = true) (hr' : rightW l' = true) {R : List Rw} (hR : Asc R) :
 (ovR R (l'.filter fun w => w.c == c)).length ≤ (ovR R (l.filter fun w => w.c == c)).length + 1 := by
 have h1 := del_len (S := ovR R (l'.filter fun w => w.c == c)) (ovR_asc _ _) id
 rw [h.rest hr hr' hR] at h1
 have h2 := delR_len (ovR R (l.filter fun w => w.c == c)) id
 omega
theorem run_next {l : List Wr} {o : Op} (hr : rightW l = true) (hc : collB o.c = true) (h0 : runE l o = 0) : ∃ M', Nx l (runL l o) o.c o.id M' ∧ rightW (runL l o) = true ∧
 ((o.d = false ∧ M' = [⟨o.c, o.id, false, cut o.v⟩] ∧ okV (cut o.v) = true) ∨ (o.d = true ∧ sawB l o.c o.id o.th = true ∧ ((o.th = false ∧ M' = []) ∨ (o.th = true ∧ M' = [⟨o.c, o.id, true, none⟩])))) := by
 unfold runE at h0
 unfold runL
 have hwE : ∀ E, wE l o.c E = E := fun E => by unfold wE; rw [hr, hc]; simp
 cases hd : o.d
 ·rw [hd] at h0
  simp only [Bool.false_eq_true, if_false] at h0 ⊢
  have hL : putL l o.c (opR o) = putL0 l o.c (opR o) := by unfold putL; rw [if_pos h0]
  rw [hL]
  have h1 : putE0 l o.c (opR o) = 0 := by unfold putE at h0; rw [hwE] at h0; exact h0
  unfold putE0 at h1
  have hv : okV (cut o.v) = true := by
   cases hq : okV (cut o.v) with
   | true => rfl
   | false =>
     have : okV (opR o).v = false := hq
     rw [this] at h1; simp at h1
  have hv' : okV (opR o).v = true := hv
  rw [hv', if_pos rfl] at h1
  obtain ⟨n1, n2⟩ := lay_next (w := putW o.c (opR o)) hr rfl rfl h1
  refine ⟨_, n1, n1.right hr n2 (fun w hw => ?_) (by simp), .inl ⟨by first | rfl | trivial, rfl, hv⟩⟩
  simp only [List.mem_cons, List.not_mem_nil, or_false] at hw
  subst hw
  rw [okW_eq]
  show (collB o.c && (if false = true then _ else okV (cut o.v))) = true
  rw [hc, hv]; rfl
 ·rw [hd] at h0
  simp only [if_true] at h0 ⊢
  have hL : delL l (opK o) o.th = delL0 l (opK o) o.th := by unfold delL; rw [if_pos h0]
  rw [hL]
  have h1 : delE0 l (opK o) o.th = 0 := by
   unfold delE at h0
   have : (opK o).c = o.c := rfl
   rw [this, hwE] at h0; exact h0
  obtain ⟨s1, s2⟩ := saw l o hr
  rw [s1] at h1
  rw [s2]
  have hs : sawB l o.c o.id o.th = true := by
   cases hq : sawB l o.c o.id o.th with
   | true => rfl
   | false => rw [hq] at h1; simp at h1
  rw [hs] at h1 ⊢
  simp only [Bool.true_eq_false, if_false] at h1 ⊢
  cases ht : o.th
  ·simp only [if_true]
   obtain ⟨A, M, D, e1, e2, e3, e4, e5, e6⟩ := nx_split hr (opK o)
   have hM : ∃ x, M = [x] := by
    rcases e6 with ⟨-, h⟩ | ⟨hB, rfl⟩
    ·exact h
    ·exfalso
     unfold sawB at hs
     have hf := bs_find (k := opK o) (w_pair hr)
     have hf' : (l.find? fun x => x.c == o.c && x.id == o.id) = if bsB l (opK o) = true then l[bsP l (opK o)]? else none := hf
     rw [hf', hB, ht] at hs
     simp at hs
   obtain ⟨x, rfl⟩ := hM
   have hl : l.take (bsP l (opK o)) ++ l.drop (bsP l (opK o) + 1) = A ++ ([] ++ D) := by
    rw [← e2]
    conv => lhs; rw [e1]
    rw [List.take_left, ← List.drop_drop, List.drop_left]; rfl
   rw [hl]
   have hlen := rightW_len hr
   have hll := congrArg List.length e1
   simp only [List.length_append, List.length_cons, List.length_nil] at hll
   have n1 : Nx l (A ++ ([] ++ D)) o.c o.id [] := ⟨A, [x], D, e1, rfl, e3, e4, e5, fun y hy => by simp at hy⟩
   exact ⟨[], n1, n1.right hr (by simp only [List.length_append, List.length_nil]; omega) (fun w hw => by simp at hw) (by simp), .inr ⟨by first | rfl | trivial, by first | rfl | trivial, .inl ⟨by first | rfl | trivial, rfl⟩⟩⟩
  ·rw [ht] at h1
   simp only [Bool.true_eq_false, if_false] at h1 ⊢
   obtain ⟨n1, n2⟩ := lay_next (k := opK o) (w := ⟨o.c, o.id, true, none⟩) hr rfl rfl h1
   refine ⟨_, n1, n1.right hr n2 (fun w hw => ?_) (by simp), .inr ⟨by first | rfl | trivial, by first | rfl | trivial, .inr ⟨by first | rfl | trivial, rfl⟩⟩⟩
   simp only [List.mem_cons, List.not_mem_nil, or_false] at hw
   subst hw
   rw [okW_eq]
   show (collB o.c && _) = true
   rw [hc]; rfl
theorem run_bad {l : List Wr} {o : Op} (hr : rightW l = true) (hc : collB o.c = true) (h0 : runE l o ≠ 0) :
 (o.d = true ∧ sawB l o.c o.id o.th = false → runE l o = 4) ∧ (runE l o = 6 → l.length = 12) ∧ (o.d = false → runE l o ≠ 4) := by
 have hwE : ∀ E, wE l o.c E = E := fun E => by unfold wE; rw [hr, hc]; simp
 have hck : (opK o).c = o.c := rfl
 have hlay : ∀ b, layEw l b = 0 ∨ (layEw l b = 6 ∧ l.length = 12) := fun b => by
  unfold layEw
  cases b
  ·by_cases h : l.length = 12
   ·simp [h]
   ·simp [h]
  ·simp
 unfold runE
 cases hd : o.d
 ·rw [if_neg (by decide : ¬ (false = true))]
  have e : putE l o.c (opR o) = if okV (opR o).v = true then layEw l (bsB l (putW o.c (opR o))) else 150 := by unfold putE; rw [hwE]; rfl
  rw [e]
  refine ⟨fun h => absurd h.1 (by simp), fun h => ?_, fun _ h => ?_⟩
  ·split at h
   ·rcases hlay (bsB l (putW o.c (opR o))) with h2 | h2
    ·rw [h2] at h; cases h
    ·exact h2.2
   ·cases h
  ·split at h
   ·rcases hlay (bsB l (putW o.c (opR o))) with h2 | h2
    ·rw [h2] at h; cases h
    ·rw [h2.1] at h; cases h
   ·cases h
 ·rw [if_pos rfl]
  have e : delE l (opK o) o.th = if sawB l o.c o.id o.th = false then 4 else if o.th = false then 0 else layEw l (bsB l (opK o)) := by
   unfold delE; rw [hck, hwE, (saw l o hr).1]
  rw [e]
  refine ⟨fun h => by rw [if_pos h.2], fun h => ?_, fun h => by cases h⟩
  split at h
  ·cases h
  ·split at h
   ·cases h
   ·rcases hlay (bsB l (opK o)) with h2 | h2
    ·rw [h2] at h; cases h
    ·exact h2.2
end Go.Q.SU
end
