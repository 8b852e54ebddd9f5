/- Writes but that of a row. -/
import Derived.Test.YtppdkahgmojipaaSA
import Derived.Test.YtppdkahgmojipaaProg
import Derived.KernelRfl
set_option linter.unusedVariables false
set_option linter.unusedSimpArgs false
set_option linter.unusedSectionVars false
set_option linter.defProp false
section
namespace Go.Q.SV
open Go.Q
def noK (c id : Int) (w : Wr) : Bool := w.c != c || w.id != id
theorem r57 (l : Option (List Wr)) (c id : Int) (h : FitW (lst l)) : res T 57 [slV 4 wrV l, .int .i64 c, .int .u64 id] = some (slV 4 wrV (oL ((lst l).filter (noK c id)))) := by
 refine run_res (run_pure (fn := g57) rfl rfl (by decide) ?_)
 simp only [g57, b57, zO, zN, zM, zL, zG, zP, zQ, zI, zA, zT, zF, zB, zC, zD, zE, zH, zJ, zK]
 have hl := h.1
 simp +contextual -implicitDefEqProofs (maxSteps := 2000000) only [↓wP, wS, seval]
 refine WC_for (lst l).length 0 (fun (j : Nat) env σ n => env 1 = .int .i64 c ∧ env 2 = .int .u64 id ∧ env 10 = slV 4 wrV l ∧ ∃ v, env 7 = v ∧ Pl σ 0 n 4 v (oL ((((lst l).take j).filter (noK c id)).map wrV))) (by omega) (by decide) (by decide) (fun _ _ => rfl) (fun _ _ _ => rfl) ?_ ?_ _ _ _ rfl rfl ?_
 ·intro j env σ n hj h1 h2 ⟨h0, h01, h3, v, h4, h5⟩
  simp only [vl_tmp] at h2
  have hx : (lst l)[j]? = some (lst l)[j] := List.getElem?_eq_getElem hj
  have ht : (lst l).take (j + 1) = (lst l).take j ++ [(lst l)[j]] := (List.take_append_getElem hj).symm
  generalize (lst l)[j] = x at *
  have hlen : ((((lst l).take j).filter (noK c id)).map wrV).length ≤ j := by
   rw [List.length_map]
   have := List.length_filter_le (noK c id) ((lst l).take j)
   rw [List.length_take] at this
   omega
  have hfs : ((lst l).take (j + 1)).filter (noK c id) = ((lst l).take j).filter (noK c id) ++ if noK c id x = true then [x] else [] := by
   rw [ht, List.filter_append]
   congr 1
   simp only [List.filter_cons, List.filter_nil]
  have hsp := spl h5
  have hc := h5.cells
  obtain ⟨σ1, hσ1⟩ : ∃ σ1, σ1 = upd (upd σ n (some (.row 4 [.agg [.int .i64 0, .int .u64 0, .bool false, .nilS]]))) n (some (.row 4 [.agg [.int .i64 x.c, .int .u64 x.id, .bool x.g, slV 1 i32V x.v]])) := ⟨_, rfl⟩
  have so : ∀ i, i < n → σ1 i = σ i := fun i hi => by rw [hσ1, upd_ne (by omega), upd_ne (by omega)]
  have sn : σ1 n = some (.row 4 [.agg [.int .i64 x.c, .int .u64 x.id, .bool x.g, slV 1 i32V x.v]]) := by rw [hσ1, upd_self]
  have keep : noK c id x = true → ∀ σ2 : Sto, True := fun _ _ => trivial
  cases k1 : (x.c != c)
  ·cases k2 : (x.id != id)
   ·have hk : noK c id x = false := by unfold noK; rw [k1, k2]; rfl
    rw [hk] at hfs
    simp only [Bool.false_eq_true, if_false, List.append_nil] at hfs
    simp +contextual -implicitDefEqProofs (maxSteps := 2000000) only [↓wP, wS, seval, h1, h2, h0, h01, h3, h4, hx, wrV_eq, ← hσ1, sn, k1, k2]
    rw [hfs]
    exact ⟨_, rfl, h5.loc (fun i a b => so i b) (by omega)⟩
   ·have hk : noK c id x = true := by unfold noK; rw [k1, k2]; rfl
    rw [hk] at hfs
    simp only [if_true] at hfs
    simp +contextual -implicitDefEqProofs (maxSteps := 2000000) only [↓wP, wS, seval, h1, h2, h0, h01, h3, h4, hx, wrV_eq, ← hσ1, sn, k1, k2]
    refine stepW_app1 (m := 0) (n0 := n) (σ0 := σ) h5 (fun i g1 g2 => ?_) (by omega) (by omega) (Nat.zero_le _) ?_ (fun _ σ2 g1 g2 => ?_)
    ·rw [upd_ne (by omega), so i g2]
    ·rw [lst_oL]; unfold LIM; omega
    ·rw [lst_oL] at g1 ⊢
     simp +contextual -implicitDefEqProofs (maxSteps := 2000000) only [↓wP, wS, seval, h1, h2, h0, h01, h3, hc, hsp]
     refine ⟨_, rfl, ?_⟩
     rw [hfs, List.map_append]
     have e2 : oL ((((lst l).take j).filter (noK c id)).map wrV ++ [x].map wrV) = some ((((lst l).take j).filter (noK c id)).map wrV ++ [wrV x]) := by
      cases ((lst l).take j).filter (noK c id) <;> rfl
     rw [e2]
     exact g1
  ·have hk : noK c id x = true := by unfold noK; rw [k1]; rfl
   rw [hk] at hfs
   simp only [if_true] at hfs
   simp +contextual -implicitDefEqProofs (maxSteps := 2000000) only [↓wP, wS, seval, h1, h2, h0, h01, h3, h4, hx, wrV_eq, ← hσ1, sn, k1]
   refine stepW_app1 (m := 0) (n0 := n) (σ0 := σ) h5 (fun i g1 g2 => ?_) (by omega) (by omega) (Nat.zero_le _) ?_ (fun _ σ2 g1 g2 => ?_)
   ·rw [upd_ne (by omega), so i g2]
   ·rw [lst_oL]; unfold LIM; omega
   ·rw [lst_oL] at g1 ⊢
    simp +contextual -implicitDefEqProofs (maxSteps := 2000000) only [↓wP, wS, seval, h1, h2, h0, h01, h3, hc, hsp]
    refine ⟨_, rfl, ?_⟩
    rw [hfs, List.map_append]
    have e2 : oL ((((lst l).take j).filter (noK c id)).map wrV ++ [x].map wrV) = some ((((lst l).take j).filter (noK c id)).map wrV ++ [wrV x]) := by
     cases ((lst l).take j).filter (noK c id) <;> rfl
    rw [e2]
    exact g1
 ·intro env σ n ⟨h0, h01, h3, v, h4, h5⟩ h1 h2
  rw [List.take_length] at h5
  have hf := h5.frz (by rw [lst_oL]; exact wr_fz.1) (by rw [lst_oL]; exact wr_fz.2)
  simp +contextual -implicitDefEqProofs (maxSteps := 2000000) only [↓wP, wS, seval, h4]
  rw [hf, slV_oL]
 ·simp +contextual -implicitDefEqProofs (maxSteps := 2000000) only [↓wP, wS, seval]
  simp [oL, Pl]
def f57 (l : Option (List Wr)) (c id : Int) (h : FitW (lst l)) := callE_tr (by decide) (r57 l c id h) (by simp [Tr, Tr_slV]) (Nw_slV _ _ _ _)
end Go.Q.SV
end

section
/- Writes and another one: the document's. -/
namespace Go.Q.SV
open Go.Q
def insB (w : Wr) : List Wr → List Wr
 | [] => [w]
 | x :: xs => if bef w x = true then w :: x :: xs else x :: insB w xs
def anyB (w : Wr) (l : List Wr) : Bool := l.any fun x => bef w x
theorem anyB_snoc (w x : Wr) (l : List Wr) : anyB w (l ++ [x]) = (anyB w l || bef w x) := by simp [anyB]
theorem insB_snoc (w x : Wr) : ∀ l : List Wr, insB w (l ++ [x]) = if anyB w l = true then insB w l ++ [x] else if bef w x = true then l ++ [w, x] else l ++ [x, w]
 | [] => by cases h : bef w x <;> simp [insB, anyB, h]
 | y :: l => by
   have ih := insB_snoc w x l
   have ha : anyB w (y :: l) = (bef w y || anyB w l) := by simp [anyB]
   rw [ha]
   cases hb : bef w y
   ·have e : ∀ m, insB w (y :: m) = y :: insB w m := fun m => by show (if bef w y = true then w :: y :: m else y :: insB w m) = _; rw [if_neg (by rw [hb]; decide)]
    rw [List.cons_append, e, e, ih, Bool.false_or]
    cases anyB w l
    ·simp only [Bool.false_eq_true, if_false]
     cases bef w x <;> rfl
    ·simp only [if_true]; rfl
   ·have e : ∀ m, insB w (y :: m) = w :: y :: m := fun m => by show (if bef w y = true then w :: y :: m else y :: insB w m) = _; rw [if_pos hb]
    rw [List.cons_append, e, e, Bool.true_or, if_pos rfl]; rfl
theorem insB_none (w : Wr) : ∀ l : List Wr, anyB w l = false → insB w l = l ++ [w]
 | [], _ => rfl
 | y :: l, h => by
   have ha : anyB w (y :: l) = (bef w y || anyB w l) := by simp [anyB]
   rw [ha, Bool.or_eq_false_iff] at h
   show (if bef w y = true then w :: y :: l else y :: insB w l) = _
   rw [if_neg (by rw [h.1]; decide), insB_none w l h.2]; rfl
end Go.Q.SV
end

section
/- Writes and another one: the document's, walked. -/
namespace Go.Q.SV
open Go.Q
theorem insB_len (w : Wr) : ∀ B : List Wr, (insB w B).length = B.length + 1
 | [] => rfl
 | y :: B => by
   show (if bef w y = true then w :: y :: B else y :: insB w B).length = _
   split
   ·rfl
   ·rw [List.length_cons, insB_len w B]; rfl
theorem oL_ins (w : Wr) (B : List Wr) : oL ((insB w B).map wrV) = some ((insB w B).map wrV) := by
 have h : ∃ y R, insB w B = y :: R := by
  cases B with
  | nil => exact ⟨w, [], rfl⟩
  | cons y B =>
    by_cases hb : bef w y = true
    ·exact ⟨w, y :: B, by show (if bef w y = true then w :: y :: B else y :: insB w B) = _; rw [if_pos hb]⟩
    ·exact ⟨y, insB w B, by show (if bef w y = true then w :: y :: B else y :: insB w B) = _; rw [if_neg hb]⟩
 obtain ⟨y, R, h⟩ := h
 rw [h]; rfl
theorem plW {σ : Sto} {m n : Nat} {v : V} {L : List Wr} (h : Pl σ m n 4 v (some (L.map wrV))) (k : Nat) : frz σ (k + 3) v = some (slV 4 wrV (some L)) := by
 obtain ⟨i, rfl, h1, -, -⟩ := h
 rw [frz_rf, h1, elemsO_row, if_pos (by omega), List.drop_zero, List.take_length, Option.bind_some]
 rw [mapM_id (fun x hx => by
  obtain ⟨y, -, rfl⟩ := List.mem_map.1 hx
  simp only [wrV_eq, elemM_agg, List.mapM_cons, List.mapM_nil, frz_int, frz_bool, frz_slV]; rfl)]
 rfl
theorem app_w {σ0 σ : Sto} {n0 n : Nat} {v : V} {R : List Wr} (x : Wr) (h : Pl σ0 1 n0 4 v (oL (R.map wrV))) (hs : ∀ i, 1 ≤ i → i < n0 → σ i = σ0 i) (h1 : 1 ≤ n0) (hn : n0 ≤ n) (hR : R.length ≤ 2000)
 {d : Option Nat} {ops : List AOp} {env : Nat → V} {lk : Nat} {Q : St → Prop}
 (hnext : ∀ v' σ', Pl σ' 1 (n + 1) 4 v' (oL ((R ++ [x]).map wrV)) → v'.cells = [v'] → (∀ c, spliceC v' 0 [c] = c) → (∀ i, i < n → (i = 0 ∨ n0 ≤ i) → σ' i = σ i) → WR T ops (ptO env d v') σ' (n + 1) lk Q) :
 stepW T (appendE 4 48 0 v (some [.agg [.int .i64 x.c, .int .u64 x.id, .bool x.g, slV 1 i32V x.v]]) σ n) d ops env lk Q := by
 refine stepW_app1 (m := 1) (n0 := n0) (σ0 := σ0) h hs hn (by omega) (Nat.zero_le _) (by rw [lst_oL, List.length_map]; unfold LIM; omega) (fun _ σ2 q1 q2 => ?_)
 have e3 : lst (oL (R.map wrV)) ++ [.agg [.int .i64 x.c, .int .u64 x.id, .bool x.g, slV 1 i32V x.v]] = (R ++ [x]).map wrV := by rw [lst_oL, List.map_append]; rfl
 have e4 : oL ((R ++ [x]).map wrV) = some ((R ++ [x]).map wrV) := by cases R <;> rfl
 rw [e3, ← e4] at q1
 refine hnext _ σ2 q1 rfl (fun c => spl q1 c) (fun i hi h0 => q2 i hi (fun off len s e => ?_))
 subst e
 cases R with
 | nil => simp only [List.map_nil, oL, Pl] at h; cases h
 | cons y R =>
   obtain ⟨k, e, -, h5, h6⟩ := h
   simp only [V.ref.injEq] at e
   omega
def bakL (l : List Wr) (c id : Int) : List Wr := (l.map cpW).filter (noK c id)
def partB (w : Wr) (l : List Wr) : List Wr := if anyB w l = true then insB w l else l
theorem r58 (l : Option (List Wr)) (w : Wr) (h : FitW (lst l)) (hll : (lst l).length ≤ 1000) : res T 58 [slV 4 wrV l, wrV w] = some (.tup [slV 4 wrV (if (bakL (lst l) w.c w.id).length = 12 then none else some (insB w (bakL (lst l) w.c w.id))), .int .i64 (if (bakL (lst l) w.c w.id).length = 12 then 6 else 0)]) := by
 refine run_res (run_pure (fn := g58) rfl rfl (by decide) ?_)
 simp only [g58, b58, zO, zN, zM, zL, zG, zP, zQ, zI, zA, zT, zF, zB, zC, zD, zE, zH, zJ, zK]
 have f10' := f10 l h
 have hcp : lst (cpWs l) = (lst l).map cpW := by unfold cpWs; rw [lst_oL]
 have f57' := f57 (cpWs l) w.c w.id ⟨by rw [hcp, List.length_map]; exact h.1, fun x hx => by
  rw [hcp] at hx
  obtain ⟨y, hy, rfl⟩ := List.mem_map.1 hx
  exact h.2 y hy⟩
 rw [hcp] at f57'
 obtain ⟨B, hB⟩ : ∃ B, B = bakL (lst l) w.c w.id := ⟨_, rfl⟩
 have hBl : B.length ≤ 1000 := by
  rw [hB]; unfold bakL
  have := List.length_filter_le (noK w.c w.id) ((lst l).map cpW)
  rw [List.length_map] at this
  omega
 rw [← hB]
 have hB' : ((lst l).map cpW).filter (noK w.c w.id) = B := by rw [hB]; rfl
 rw [hB'] at f57'
 have f45' : ∀ x : Wr, ∀ (fs : Bool) (σ : Sto) (n lk : Nat), callE T fs 45 [.agg [.int .i64 w.c, .int .u64 w.id, .bool w.g, slV 1 i32V w.v], .agg [.int .i64 x.c, .int .u64 x.id, .bool x.g, slV 1 i32V x.v]] σ n lk = some (.bool (bef w x), σ, n) := fun x fs σ n lk => f45 w x fs σ n lk
 obtain ⟨σ0, hσ0⟩ : ∃ σ0, σ0 = upd Sto.empty 0 (some (Ob.row 4 [V.agg [.int .i64 w.c, .int .u64 w.id, .bool w.g, slV 1 i32V w.v]])) := ⟨_, rfl⟩
 have s0 : σ0 0 = some (Ob.row 4 [V.agg [.int .i64 w.c, .int .u64 w.id, .bool w.g, slV 1 i32V w.v]]) := by rw [hσ0, upd_self]
 by_cases h12 : B.length = 12
 ·have hd : ((B.length : Int) == 12) = true := by rw [h12]; rfl
  rw [if_pos h12, if_pos h12]
  simp +contextual -implicitDefEqProofs (maxSteps := 2000000) only [↓wP, wS, seval, wrV_eq, ← hσ0, s0, f10', f57', lst_oL, hd]
  rfl
 ·have hd : ((B.length : Int) == 12) = false := by simp; omega
  rw [if_neg h12, if_neg h12]
  simp +contextual -implicitDefEqProofs (maxSteps := 2000000) only [↓wP, wS, seval, wrV_eq, ← hσ0, s0, f10', f57', lst_oL, hd]
  refine WC_for B.length 0 (fun (j : Nat) env σ n => env 3 = .ptr 0 4 0 0 ∧ env 20 = slV 4 wrV (oL B) ∧ 1 ≤ n ∧ σ 0 = σ0 0 ∧ env 7 = .bool (anyB w (B.take j)) ∧ ∃ v, env 6 = v ∧ Pl σ 1 n 4 v (oL ((partB w (B.take j)).map wrV))) (by omega) (by decide) (by decide) (fun _ _ => rfl) (fun _ _ _ => rfl) ?_ ?_ _ _ _ rfl rfl ?_
  ·intro j env σ n hj h1 h2 ⟨g1, g2, g3, g4, g5, v, g6, g7⟩
   simp only [vl_tmp] at h2
   have hx : B[j]? = some B[j] := List.getElem?_eq_getElem hj
   have hx' : (lst (oL B))[j]? = some B[j] := by rw [lst_oL]; exact hx
   have ht : B.take (j + 1) = B.take j ++ [B[j]] := (List.take_append_getElem hj).symm
   rw [ht, anyB_snoc]
   have hps : partB w (B.take j ++ [B[j]]) = if anyB w (B.take j) = true then partB w (B.take j) ++ [B[j]] else if bef w B[j] = true then partB w (B.take j) ++ [w] ++ [B[j]] else partB w (B.take j) ++ [B[j]] := by
    unfold partB
    rw [anyB_snoc, insB_snoc]
    cases anyB w (B.take j)
    ·cases bef w B[j] <;> simp
    ·simp
   rw [hps]
   have hpl : (partB w (B.take j)).length ≤ 1001 := by
    have hl := insB_len w (B.take j)
    have : (B.take j).length ≤ j := by rw [List.length_take]; omega
    unfold partB
    split <;> omega
   generalize B[j] = x at *
   generalize partB w (B.take j) = R at *
   have hc := g7.cells
   have hsp := spl g7
   have sw : σ 0 = some (Ob.row 4 [V.agg [.int .i64 w.c, .int .u64 w.id, .bool w.g, slV 1 i32V w.v]]) := by rw [g4]; exact s0
   obtain ⟨σ1, hσ1⟩ : ∃ σ1, σ1 = upd (upd σ n (some (.row 4 [.agg [.int .i64 0, .int .u64 0, .bool false, .nilS]]))) n (some (.row 4 [.agg [.int .i64 x.c, .int .u64 x.id, .bool x.g, slV 1 i32V x.v]])) := ⟨_, rfl⟩
   have so : ∀ i, i < n → σ1 i = σ i := fun i hi => by rw [hσ1, upd_ne (by omega), upd_ne (by omega)]
   have sn : σ1 n = some (.row 4 [.agg [.int .i64 x.c, .int .u64 x.id, .bool x.g, slV 1 i32V x.v]]) := by rw [hσ1, upd_self]
   have sw1 : σ1 0 = some (Ob.row 4 [V.agg [.int .i64 w.c, .int .u64 w.id, .bool w.g, slV 1 i32V w.v]]) := by rw [so 0 (by omega)]; exact sw
   cases ha : anyB w (B.take j)
   ·rw [ha] at g5
    cases hb : bef w x
    ·have f45x := f45' x
     rw [hb] at f45x
     simp +contextual -implicitDefEqProofs (maxSteps := 2000000) only [↓wP, wS, seval, h1, h2, g1, g2, g5, g6, hx', wrV_eq, ← hσ1, sn, sw1, f45x]
     refine app_w x g7 (fun i a b => by rw [upd_ne (by omega), so i b]) g3 (by omega) (by omega) (fun v' σ' r1 r2 r3 r4 => ?_)
     simp +contextual -implicitDefEqProofs (maxSteps := 2000000) only [↓wP, wS, seval, h1, h2, g1, g2, g5, r2, r3]
     exact ⟨by rw [r4 0 (by omega) (.inl rfl), upd_ne (by omega), so 0 (by omega)]; exact g4, _, rfl, r1⟩
    ·have f45x := f45' x
     rw [hb] at f45x
     simp +contextual -implicitDefEqProofs (maxSteps := 2000000) only [↓wP, wS, seval, h1, h2, g1, g2, g5, g6, hx', wrV_eq, ← hσ1, sn, sw1, f45x]
     refine app_w w g7 (fun i a b => by rw [upd_ne (by omega), so i b]) g3 (by omega) (by omega) (fun v' σ' r1 r2 r3 r4 => ?_)
     have sn' : σ' n = some (.row 4 [.agg [.int .i64 x.c, .int .u64 x.id, .bool x.g, slV 1 i32V x.v]]) := by rw [r4 n (by omega) (.inr (Nat.le_refl _)), upd_ne (by omega)]; exact sn
     simp +contextual -implicitDefEqProofs (maxSteps := 2000000) only [↓wP, wS, seval, h1, h2, g1, g2, g5, r2, r3, sn']
     refine app_w x r1 (fun i a b => by rw [upd_ne (by omega)]) (by omega) (by omega) (by rw [List.length_append]; simp only [List.length_cons, List.length_nil]; omega) (fun v2 σ2 t1 t2 t3 t4 => ?_)
     simp +contextual -implicitDefEqProofs (maxSteps := 2000000) only [↓wP, wS, seval, h1, h2, g1, g2, g5, t2, t3]
     exact ⟨by rw [t4 0 (by omega) (.inl rfl), upd_ne (by omega), r4 0 (by omega) (.inl rfl), upd_ne (by omega), so 0 (by omega)]; exact g4, _, rfl, t1⟩
   ·rw [ha] at g5
    simp +contextual -implicitDefEqProofs (maxSteps := 2000000) only [↓wP, wS, seval, h1, h2, g1, g2, g5, g6, hx', wrV_eq, ← hσ1, sn, sw1]
    refine app_w x g7 (fun i a b => by rw [upd_ne (by omega), so i b]) g3 (by omega) (by omega) (fun v' σ' r1 r2 r3 r4 => ?_)
    simp +contextual -implicitDefEqProofs (maxSteps := 2000000) only [↓wP, wS, seval, h1, h2, g1, g2, g5, r2, r3]
    exact ⟨by rw [r4 0 (by omega) (.inl rfl), upd_ne (by omega), so 0 (by omega)]; exact g4, _, rfl, r1⟩
  ·intro env σ n ⟨g1, g2, g3, g4, g5, v, g6, g7⟩ h1 h2
   rw [List.take_length] at g5 g7
   have sw : σ 0 = some (Ob.row 4 [V.agg [.int .i64 w.c, .int .u64 w.id, .bool w.g, slV 1 i32V w.v]]) := by rw [g4]; exact s0
   have hc := g7.cells
   have hsp := spl g7
   cases ha : anyB w B
   ·rw [ha] at g5
    have hp : partB w B = B := by unfold partB; rw [if_neg (by rw [ha]; decide)]
    rw [hp] at g7
    simp +contextual -implicitDefEqProofs (maxSteps := 2000000) only [↓wP, wS, seval, g1, g5, g6, sw]
    refine stepW_app1 (m := 1) (n0 := n) (σ0 := σ) g7 (fun i a b => by rw [upd_ne (by omega)]) (by omega) (by omega) (Nat.zero_le _) (by rw [lst_oL, List.length_map]; unfold LIM; omega) (fun _ σ2 q1 q2 => ?_)
    rw [lst_oL, List.length_map] at q1
    have e3 : B.map wrV ++ [.agg [.int .i64 w.c, .int .u64 w.id, .bool w.g, slV 1 i32V w.v]] = (insB w B).map wrV := by rw [insB_none w B ha, List.map_append]; rfl
    rw [e3] at q1
    rw [lst_oL, List.length_map]
    have hf := plW q1 8
    simp +contextual -implicitDefEqProofs (maxSteps := 2000000) only [↓wP, wS, seval, hc, hsp, hf]
   ·rw [ha] at g5
    have hp : partB w B = insB w B := by unfold partB; rw [if_pos ha]
    rw [hp] at g7
    rw [oL_ins] at g7
    have hf := plW g7 8
    have hf2 := plW g7 9
    simp +contextual -implicitDefEqProofs (maxSteps := 2000000) only [↓wP, wS, seval, g1, g5, g6, hc, hf]
  ·simp +contextual -implicitDefEqProofs (maxSteps := 2000000) only [↓wP, wS, seval]
   exact ⟨rfl, _, rfl, rfl⟩
def rwO (l : List Wr) (w : Wr) : Option (List Wr) := if (bakL l w.c w.id).length = 12 then none else some (insB w (bakL l w.c w.id))
def rwE (l : List Wr) (w : Wr) : Int := if (bakL l w.c w.id).length = 12 then 6 else 0
theorem f58 (l : Option (List Wr)) (w : Wr) (h : FitW (lst l)) (hll : (lst l).length ≤ 1000) (fs : Bool) (σ : Sto) (n lk : Nat) : callE T fs 58 [slV 4 wrV l, wrV w] σ n lk = some (.tup [slV 4 wrV (rwO (lst l) w), .int .i64 (rwE (lst l) w)], σ, n) :=
 callE_tr (by decide) (r58 l w h hll) (by simp [Tr, Tr_slV, wrV_eq]) (by simp [Nw, Nw_slV]) fs σ n lk
end Go.Q.SV
end

section
/- The document's Del. -/
namespace Go.Q.SV
open Go.Q
def fdW (l : List Wr) (c id : Int) : Option Wr := l.find? fun x => x.c == c && x.id == id
def noB (o : Option Wr) (th : Bool) : Bool := match o with | some x => x.g | none => !th
def rdE (l : List Wr) (c id : Int) (th : Bool) : Int := if collB c = false then 2 else if noB (fdW l c id) th = true then 4 else if th = false then 0 else rwE l ⟨c, id, true, none⟩
def rdO (l : List Wr) (c id : Int) (th : Bool) : Option (List Wr) := if collB c = false then none else if noB (fdW l c id) th = true then none else if th = false then oL (bakL l c id) else rwO l ⟨c, id, true, none⟩
theorem r34 (l : Option (List Wr)) (c id : Int) (th : Bool) (h : FitW (lst l)) (hll : (lst l).length ≤ 1000) : res T 34 [slV 4 wrV l, .int .i64 c, .int .u64 id, .bool th] = some (.tup [slV 4 wrV (rdO (lst l) c id th), .int .i64 (rdE (lst l) c id th)]) := by
 refine run_res (run_pure (fn := g34) rfl rfl (by decide) ?_)
 simp only [g34, b34, zO, zN, zM, zL, zG, zP, zQ, zI, zA, zT, zF, zB, zC, zD, zE, zH, zJ, zK]
 have f17' := f17 c
 have f30' := f30 l c id h.1
 have f10' := f10 l h
 have hcp : lst (cpWs l) = (lst l).map cpW := by unfold cpWs; rw [lst_oL]
 have f57' := f57 (cpWs l) c id ⟨by rw [hcp, List.length_map]; exact h.1, fun x hx => by
  rw [hcp] at hx
  obtain ⟨y, hy, rfl⟩ := List.mem_map.1 hx
  exact h.2 y hy⟩
 rw [hcp] at f57'
 have f58' := f58 l ⟨c, id, true, none⟩ h hll
 have hw : wrV ⟨c, id, true, none⟩ = .agg [.int .i64 c, .int .u64 id, .bool true, .nilS] := rfl
 rw [hw] at f58'
 have hfd : (lst l).find? (fun x => x.c == c && x.id == id) = fdW (lst l) c id := rfl
 rw [hfd] at f30'
 have z1 : slV 4 wrV none = .nilS := rfl
 have hbk : ((lst l).map cpW).filter (noK c id) = bakL (lst l) c id := rfl
 rw [hbk] at f57'
 unfold rdO rdE
 cases hc : collB c
 ·rw [hc] at f17'
  simp +contextual -implicitDefEqProofs (maxSteps := 2000000) only [↓wP, wS, seval, f17']
  rfl
 rw [hc] at f17'
 generalize bakL (lst l) c id = B at *
 generalize fdW (lst l) c id = o at *
 generalize rwO (lst l) ⟨c, id, true, none⟩ = O at *
 generalize rwE (lst l) ⟨c, id, true, none⟩ = E at *
 cases o with
 | none =>
   have e : fdV none = .tup [.agg [.int .i64 0, .int .u64 0, .bool false, .nilS], .bool false] := rfl
   rw [e] at f30'
   cases th
   ·simp +contextual -implicitDefEqProofs (maxSteps := 2000000) only [↓wP, wS, seval, f17', f30', noB]
    rfl
   ·simp +contextual -implicitDefEqProofs (maxSteps := 2000000) only [↓wP, wS, seval, f17', f30', f58', noB]
 | some x =>
   have e : fdV (some x) = .tup [.agg [.int .i64 x.c, .int .u64 x.id, .bool x.g, slV 1 i32V x.v], .bool true] := rfl
   rw [e] at f30'
   cases hg : x.g
   ·rw [hg] at f30'
    cases th
    ·simp +contextual -implicitDefEqProofs (maxSteps := 2000000) only [↓wP, wS, seval, f17', f30', f10', f57', noB, hg]
    ·simp +contextual -implicitDefEqProofs (maxSteps := 2000000) only [↓wP, wS, seval, f17', f30', f58', noB, hg]
   ·rw [hg] at f30'
    simp +contextual -implicitDefEqProofs (maxSteps := 2000000) only [↓wP, wS, seval, f17', f30', noB, hg]
    rfl
def f34 (l : Option (List Wr)) (c id : Int) (th : Bool) (h : FitW (lst l)) (hll : (lst l).length ≤ 1000) := callE_tr (by decide) (r34 l c id th h hll) (by simp [Tr, Tr_slV]) (by simp [Nw, Nw_slV])
end Go.Q.SV
end

section
/- The document's Put. -/
namespace Go.Q.SV
open Go.Q
theorem callE_sh' {f : Nat} {args ts : List V} {r : V} {σ : Sto} (hm : T.mode f ≠ .raw) (hts : args.mapM (frz σ 12) = some ts) (hr : res T f ts = some r) (ht : ∀ σ n, thaw σ n r = (r, σ, n)) (n : Nat) :
 ∃ σ', callE T true f args σ n 0 = some (r, σ', n) ∧ ∀ i, i ∉ args.flatMap (rch σ 12) → σ' i = σ i := by
 rw [callE_eq hm, hts, callR_some, hr, retE_some]
 unfold backE
 split
 ·exact ⟨σ, by rw [ht], fun _ _ => rfl⟩
 ·refine ⟨dropL σ (args.flatMap (rch σ 12)), ?_, fun i hi => by unfold dropL; rw [if_neg hi]⟩
  rw [if_pos (by simp), ht]
def rpW (c : Int) (r : Rw) : Wr := ⟨c, r.id, false, cp r.v⟩
def rpE (l : List Wr) (c : Int) (r : Rw) : Int := if collB c = false then 2 else if okV r.v = false then 150 else rwE l (rpW c r)
def rpO (l : List Wr) (c : Int) (r : Rw) : Option (List Wr) := if collB c = false then none else if okV r.v = false then none else rwO l (rpW c r)
theorem r35 (l : Option (List Wr)) (c : Int) (r : Rw) (h : FitW (lst l)) (hll : (lst l).length ≤ 1000) (hr : (lst r.v).length ≤ 1000000) : res T 35 [slV 4 wrV l, .int .i64 c, rwV r] = some (.tup [slV 4 wrV (rpO (lst l) c r), .int .i64 (rpE (lst l) c r)]) := by
 refine run_res (run_pure (fn := g35) rfl rfl (by decide) ?_)
 simp only [g35, b35, zO, zN, zM, zL, zG, zP, zQ, zI, zA, zT, zF, zB, zC, zD, zE, zH, zJ, zK]
 have f17' := f17 c
 have f44' := f44 r.v (by omega)
 have r58' := r58 l (rpW c r) h hll
 have hEE : (if (bakL (lst l) (rpW c r).c (rpW c r).id).length = 12 then none else some (insB (rpW c r) (bakL (lst l) (rpW c r).c (rpW c r).id))) = rwO (lst l) (rpW c r) := rfl
 have hEO : (if (bakL (lst l) (rpW c r).c (rpW c r).id).length = 12 then (6 : Int) else 0) = rwE (lst l) (rpW c r) := rfl
 rw [hEE, hEO] at r58'
 unfold rpO rpE
 have hB := big_le
 obtain ⟨σ0, hσ0⟩ : ∃ σ0, σ0 = upd Sto.empty 0 (some (Ob.row 2 [V.agg [V.int IntKind.u64 r.id, slV 1 i32V r.v]])) := ⟨_, rfl⟩
 have s0 : σ0 0 = some (Ob.row 2 [V.agg [V.int IntKind.u64 r.id, slV 1 i32V r.v]]) := by rw [hσ0, upd_self]
 have x0 : ∀ hid, hide σ0 1 1 hid 0 = σ0 0 := fun hid => hide_low _ _ _ _ (by omega) (Nat.le_refl _)
 cases hc : collB c
 ·rw [hc] at f17'
  simp +contextual -implicitDefEqProofs (maxSteps := 2000000) only [↓wP, wS, seval, rwV_eq, f17']
  rfl
 rw [hc] at f17'
 cases hv : okV r.v
 ·rw [hv] at f44'
  simp +contextual -implicitDefEqProofs (maxSteps := 2000000) only [↓wP, wS, seval, rwV_eq, ← hσ0, s0, f17', f44']
  rfl
 rw [hv] at f44'
 simp only [Bool.true_eq_false, if_false]
 generalize rwO (lst l) (rpW c r) = O at *
 generalize rwE (lst l) (rpW c r) = E at *
 have x1 : (2 ≤ 1 + BIG) = True := by simp; omega
 obtain ⟨M, hM⟩ : ∃ M, M = merge σ0 (upd σ0 1 (some (Ob.row 1 []))) 1 := ⟨_, rfl⟩
 have m0 : M 0 = σ0 0 := by rw [hM, merge_low _ _ _ (by omega)]
 have m1 : M 1 = some (.row 1 []) := by rw [hM, merge_in _ _ _ (Nat.le_refl _) (by omega), upd_self]
 have x2 : ∀ hid, hide M 1 (1 + BIG * 1) hid 0 = M 0 := fun hid => hide_low _ _ _ _ (by omega) (by omega)
 have hlm : ((lst r.v).map i32V).length * 4 ≤ LIM := by rw [List.length_map]; unfold LIM; omega
 simp +contextual -implicitDefEqProofs (maxSteps := 2000000) only [↓wP, wS, seval, rwV_eq, ← hσ0, s0, x0, f17', f44', x1, ← hM, m0, m1, x2, true_or, hlm]
 obtain ⟨N, hN⟩ : ∃ N, N = mergeL M (upd (upd M 1 none) (1 + BIG * 1) (some (Ob.row 1 (List.map i32V (lst r.v))))) 1 0 (1 + (BIG * 1 + BIG)) [] := ⟨_, rfl⟩
 have n1 : N (1 + BIG * 1) = some (.row 1 (List.map i32V (lst r.v))) := by
  rw [hN]
  unfold mergeL
  rw [if_pos ⟨by omega, by omega, by simp [inHid]⟩, upd_self]
 have x3 : (1 + (BIG * 1 + 1) ≤ 1 + (BIG * 1 + BIG)) = True := by simp; omega
 have hfz : ∀ k, frz N (k + 2) (.ref (1 + BIG * 1) 0 (List.map i32V (lst r.v)).length 1) = some (slV 1 i32V (cp r.v)) := fun k => by
  have := frz_vx (σ := N) (x := ((⟨0, 0, false, cp r.v⟩ : Wr), some (1 + BIG * 1))) ⟨rfl, n1⟩ k
  rw [List.length_map]
  exact this
 have mm : [slV 4 wrV l, .agg [.int .i64 c, .int .u64 r.id, .bool false, .ref (1 + BIG * 1) 0 (List.map i32V (lst r.v)).length 1]].mapM (frz N 12) = some [slV 4 wrV l, wrV (rpW c r)] := by
  simp only [List.mapM_cons, List.mapM_nil, frz_slV, frz_agg, frz_int, frz_bool, hfz 9, wrV_eq, rpW]; rfl
 obtain ⟨σ3, c58, -⟩ := callE_sh' (f := 58) (by decide) mm r58' (fun σ n => by cases O <;> rfl) (1 + BIG * 2)
 simp +contextual -implicitDefEqProofs (maxSteps := 2000000) only [↓wP, wS, seval, x3, ← hN, c58]
def f35 (l : Option (List Wr)) (c : Int) (r : Rw) (h : FitW (lst l)) (hll : (lst l).length ≤ 1000) (hr : (lst r.v).length ≤ 1000000) := callE_tr (by decide) (r35 l c r h hll hr) (by simp [Tr, Tr_slV, rwV_eq]) (by simp [Nw, Nw_slV])
end Go.Q.SV
end

section
/- What the document says of an op. -/
namespace Go.Q.SV
open Go.Q
def woE (l : List Wr) (o : Op) : Int := if rightW l = false then 260 else if o.d = true then rdE l o.c o.id o.th else rpE l o.c (opR o)
def woO (l : List Wr) (o : Op) : Option (List Wr) := if rightW l = false then none else if o.d = true then rdO l o.c o.id o.th else rpO l o.c (opR o)
theorem r12 (l : Option (List Wr)) (o : Op) (h : FitW (lst l)) (hll : (lst l).length ≤ 1000) (hv : Sm o.v) : res T 12 [opV o, slV 4 wrV l] = some (.tup [slV 4 wrV (woO (lst l) o), .int .i64 (woE (lst l) o)]) := by
 refine run_res (run_pure (fn := g12) rfl rfl (by decide) ?_)
 simp only [g12, b12, zO, zN, zM, zL, zG, zP, zQ, zI, zA, zT, zF, zB, zC, zD, zE, zH, zJ, zK]
 have hsm : SmW l := ⟨by have := h.1; omega, fun x hx => by have := h.2 x hx; unfold Sm; omega⟩
 have f16' := f16 l hsm
 have f27' := f27 o.v hv
 have f34' := f34 l o.c o.id o.th h hll
 have hcl : (lst (cut o.v)).length ≤ 5 := by show ((lst o.v).take 5).length ≤ 5; rw [List.length_take]; omega
 have r35' := r35 l o.c (opR o) h hll (by show (lst (cut o.v)).length ≤ 1000000; omega)
 have hB := big_le
 unfold woO woE
 obtain ⟨σ0, hσ0⟩ : ∃ σ0, σ0 = upd Sto.empty 0 (some (Ob.row 5 [V.agg [.bool o.d, .bool o.th, .int .i64 o.c, .int .u64 o.id, slV 1 i32V o.v]])) := ⟨_, rfl⟩
 have s0 : σ0 0 = some (Ob.row 5 [V.agg [.bool o.d, .bool o.th, .int .i64 o.c, .int .u64 o.id, slV 1 i32V o.v]]) := by rw [hσ0, upd_self]
 cases hr : rightW (lst l)
 ·rw [hr] at f16'
  simp +contextual -implicitDefEqProofs (maxSteps := 2000000) only [↓wP, wS, seval, opV_eq, f16']
  rfl
 rw [hr] at f16'
 simp only [Bool.true_eq_false, if_false]
 generalize rdO (lst l) o.c o.id o.th = O1 at *
 generalize rdE (lst l) o.c o.id o.th = E1 at *
 generalize rpO (lst l) o.c (opR o) = O2 at *
 generalize rpE (lst l) o.c (opR o) = E2 at *
 cases hd : o.d
 ·rw [hd] at s0 hσ0
  simp only [Bool.false_eq_true, if_false]
  have x0 : ∀ hid, hide σ0 1 1 hid 0 = σ0 0 := fun hid => hide_low _ _ _ _ (by omega) (Nat.le_refl _)
  have x1 : (2 ≤ 1 + BIG) = True := by simp; omega
  obtain ⟨M, hM⟩ : ∃ M, M = merge σ0 (upd σ0 1 (some (Ob.row 1 (List.map i32V (lst (cut o.v)))))) 1 := ⟨_, rfl⟩
  have m1 : M 1 = some (.row 1 ((lst (cut o.v)).map i32V)) := by rw [hM, merge_in _ _ _ (Nat.le_refl _) (by omega), upd_self]
  have mm : [slV 4 wrV l, .int .i64 o.c, .agg [.int .u64 o.id, .ref 1 0 (lst (cut o.v)).length 1]].mapM (frz M 12) = some [slV 4 wrV l, .int .i64 o.c, rwV (opR o)] := by
   simp only [List.mapM_cons, List.mapM_nil, frz_slV, frz_agg, frz_int, frz_cut m1 9, rwV_eq, opR]; rfl
  obtain ⟨σ3, c35, -⟩ := callE_sh' (f := 35) (by decide) mm r35' (fun σ n => by cases O2 <;> rfl) (1 + BIG * 1)
  simp +contextual -implicitDefEqProofs (maxSteps := 2000000) only [↓wP, wS, seval, opV_eq, hd, ← hσ0, s0, f16', f27', x0, x1, ← hM, c35]
 ·rw [hd] at s0 hσ0
  simp only [if_true]
  simp +contextual -implicitDefEqProofs (maxSteps := 2000000) only [↓wP, wS, seval, opV_eq, hd, ← hσ0, s0, f16', f34']
def f12 (l : Option (List Wr)) (o : Op) (h : FitW (lst l)) (hll : (lst l).length ≤ 1000) (hv : Sm o.v) := callE_tr (by decide) (r12 l o h hll hv) (by simp [Tr, Tr_slV, opV_eq]) (by simp [Nw, Nw_slV])
end Go.Q.SV
end

section
/- What is done, and what the document says of it: the same. -/
namespace Go.Q.SV
open Go.Q
theorem w_pair {l : List Wr} (h : rightW l = true) : l.Pairwise fun a b => bef a b = true := by
 unfold rightW at h
 rw [Bool.and_eq_true] at h
 have h2 := h.2
 rw [List.pairwise_iff_getElem]
 have pre : ∀ n, n ≤ l.length → wU l n = true → ∀ j, j < n → (hj : j < l.length) → okN l j l[j] = true := by
  intro n
  induction n with
  | zero => intro _ _ j hj; omega
  | succ n ih =>
    intro hn hw j hj hjl
    rw [wU_step (by omega : n < l.length), Bool.and_eq_true] at hw
    by_cases e : j = n
    ·subst e; exact hw.2
    ·exact ih (by omega) hw.1 j (by omega) hjl
 have step : ∀ j (hj : j + 1 < l.length), bef l[j] l[j + 1] = true := by
  intro j hj
  have := pre _ (Nat.le_refl _) h2 (j + 1) hj hj
  unfold okN at this
  rw [Bool.and_eq_true] at this
  have h2 := this.2
  simp only [List.getElem?_eq_getElem (show j < l.length by omega)] at h2
  exact h2
 have key : ∀ k i (hi : i < l.length) (hk : i + k + 1 < l.length), bef l[i] l[i + k + 1] = true := by
  intro k
  induction k with
  | zero => intro i hi hk; exact step i hk
  | succ k ih =>
    intro i hi hk
    have h1 := ih i hi (by omega)
    have h2 := step (i + k + 1) (by omega)
    have e : i + (k + 1) + 1 = i + k + 1 + 1 := by omega
    simp only [e]
    exact bef_trans h1 h2
 intro i j hi hj hij
 have h1 := key (j - i - 1) i hi (by omega)
 have e : i + (j - i - 1) + 1 = j := by omega
 simp only [e] at h1
 exact h1
theorem rightW_len {l : List Wr} (h : rightW l = true) : l.length ≤ 12 := by
 unfold rightW at h
 rw [Bool.and_eq_true, decide_eq_true_eq] at h
 exact h.1
def qW (w : Wr) : Int × Int × Bool × List Int := (w.c, w.id, w.g, lst w.v)
theorem same_qw {l m : List Wr} (h : l.map qW = m.map qW) : sameL sameW1 l m = true := sameL_of (q := qW) (fun a b h => by
 unfold qW at h
 simp only [Prod.mk.injEq] at h
 obtain ⟨h1, h2, h3, h4⟩ := h
 unfold sameW1
 rw [h1, h2, h3, h4]
 simp) h
theorem qW_cp (l : List Wr) : (l.map cpW).map qW = l.map qW := by rw [List.map_map]; rfl
theorem insB_at (w : Wr) (B : List Wr) (hB : ∀ b ∈ B, bef w b = true) : ∀ A : List Wr, (∀ a ∈ A, bef w a = false) → insB w (A ++ B) = A ++ w :: B
 | [], _ => by
   cases B with
   | nil => rfl
   | cons b B =>
     show (if bef w b = true then w :: b :: B else b :: insB w B) = _
     rw [if_pos (hB b List.mem_cons_self)]; rfl
 | a :: A, h => by
   show (if bef w a = true then w :: a :: (A ++ B) else a :: insB w (A ++ B)) = _
   rw [if_neg (by rw [h a List.mem_cons_self]; decide), insB_at w B hB A (fun x hx => h x (List.mem_cons_of_mem _ hx))]; rfl
theorem bef_asym {a b : Wr} (h : bef a b = true) : bef b a = false := by
 cases hb : bef b a with
 | false => rfl
 | true => exact absurd rfl (bef_key (bef_trans h hb))
theorem bef_tri {a b : Wr} (h : bef a b = false) (hk : ¬ (a.c = b.c ∧ a.id = b.id)) : bef b a = true := by
 unfold bef at *
 simp only [Bool.or_eq_true, Bool.and_eq_true, decide_eq_true_eq, beq_iff_eq, Bool.or_eq_false_iff, decide_eq_false_iff_not, Bool.and_eq_false_iff, beq_eq_false_iff_ne, ne_eq] at *
 omega
theorem bef_congr {a b k : Wr} (h : bef a b = true) (hc : a.c = k.c) (hi : a.id = k.id) : bef k b = true := by
 unfold bef at *
 rw [← hc, ← hi]; exact h
theorem bs_split {l : List Wr} (k : Wr) (hs : l.Pairwise fun a b => bef a b = true) : ∃ A M D, l = A ++ (M ++ D) ∧ A.length = bsP l k ∧ (∀ a ∈ A, bef a k = true) ∧ (∀ d ∈ D, bef k d = true) ∧ ((bsB l k = true ∧ ∃ x, M = [x] ∧ x.c = k.c ∧ x.id = k.id) ∨ (bsB l k = false ∧ M = [])) := by
 obtain ⟨h1, h2⟩ := bsP_sp (k := k) hs
 have hle := bsP_le l k
 have hA : ∀ a ∈ l.take (bsP l k), bef a k = true := fun a ha => by
  obtain ⟨i, hi, rfl⟩ := List.getElem_of_mem ha
  rw [List.length_take] at hi
  rw [List.getElem_take]
  exact h1 i _ (by omega) (List.getElem?_eq_getElem (by omega))
 have hl : (l.take (bsP l k)).length = bsP l k := by rw [List.length_take]; omega
 have hsp := List.take_append_drop (bsP l k) l
 by_cases hp : bsP l k < l.length
 ·have hd : l.drop (bsP l k) = l[bsP l k] :: l.drop (bsP l k + 1) := List.drop_eq_getElem_cons hp
  have hx : l[bsP l k]? = some l[bsP l k] := List.getElem?_eq_getElem hp
  have hbx := h2 _ _ (Nat.le_refl _) hx
  have hB : bsB l k = (l[bsP l k].c == k.c && l[bsP l k].id == k.id) := by
   unfold bsB
   rw [hx]
   exact cmp0 _ _
  have hpw : ∀ d ∈ l.drop (bsP l k + 1), bef l[bsP l k] d = true := by
   have := hs.drop (i := bsP l k)
   rw [hd] at this
   exact (List.pairwise_cons.1 this).1
  rw [hd] at hsp
  generalize l[bsP l k] = x at *
  cases hb : (x.c == k.c && x.id == k.id)
  ·rw [hb] at hB
   have hkx : bef k x = true := bef_tri hbx (fun e => by rw [e.1, e.2] at hb; simp at hb)
   refine ⟨_, [], _, hsp.symm, hl, hA, fun d hd => ?_, .inr ⟨hB, rfl⟩⟩
   rcases List.mem_cons.1 hd with rfl | hd
   ·exact hkx
   ·exact bef_trans hkx (hpw d hd)
  ·rw [hb] at hB
   simp only [Bool.and_eq_true, beq_iff_eq] at hb
   exact ⟨_, [x], _, hsp.symm, hl, hA, fun d hd => bef_congr (hpw d hd) hb.1 hb.2, .inl ⟨hB, x, rfl, hb.1, hb.2⟩⟩
 ·have hx : l[bsP l k]? = none := List.getElem?_eq_none (by omega)
  have hB : bsB l k = false := by unfold bsB; rw [hx]
  have hd : l.drop (bsP l k) = [] := List.drop_of_length_le (by omega)
  rw [hd] at hsp
  exact ⟨_, [], [], hsp.symm, hl, hA, fun d hd => by simp at hd, .inr ⟨hB, rfl⟩⟩
theorem noK_bef {k x : Wr} (h : bef x k = true ∨ bef k x = true) : noK k.c k.id x = true := by
 unfold noK bef at *
 simp only [Bool.or_eq_true, Bool.and_eq_true, decide_eq_true_eq, beq_iff_eq, bne_iff_ne, ne_eq] at *
 omega
theorem bak_split {A M D : List Wr} {k : Wr} (hA : ∀ a ∈ A, bef a k = true) (hD : ∀ d ∈ D, bef k d = true) (hM : ∀ x ∈ M, x.c = k.c ∧ x.id = k.id) : bakL (A ++ (M ++ D)) k.c k.id = (A ++ D).map cpW := by
 have e : ∀ L : List Wr, bakL L k.c k.id = (L.filter (noK k.c k.id)).map cpW := fun L => by
  unfold bakL
  rw [List.filter_map]; rfl
 rw [e, List.filter_append, List.filter_append, List.filter_eq_self.2 fun a ha => noK_bef (.inl (hA a ha)), List.filter_eq_self.2 fun a ha => noK_bef (.inr (hD a ha)), List.filter_eq_nil_iff.2 fun x hx => ?_]
 ·rfl
 ·unfold noK
  rw [(hM x hx).1, (hM x hx).2]; simp
theorem map_set_mid {A D : List Wr} {x w : Wr} : (A ++ ([x] ++ D)).set A.length w = A ++ w :: D := by
 rw [List.set_append_right _ _ (Nat.le_refl _), Nat.sub_self]; rfl
theorem lay_with {l : List Wr} {k : Wr} (w : Wr) (hr : rightW l = true) (hc : w.c = k.c) (hi : w.id = k.id) :
 layEw l (bsB l k) = rwE l w ∧ (rwE l w = 0 → (layLw l (bsP l k) (bsB l k) w).map qW = (lst (rwO l w)).map qW) ∧ (rwE l w ≠ 0 → rwO l w = none) := by
 obtain ⟨A, M, D, h1, h2, h3, h4, h5⟩ := bs_split k (w_pair hr)
 have hlen := rightW_len hr
 have hM : ∀ x ∈ M, x.c = k.c ∧ x.id = k.id := by
  rcases h5 with ⟨-, x, rfl, e1, e2⟩ | ⟨-, rfl⟩
  ·intro y hy; simp only [List.mem_cons, List.not_mem_nil, or_false] at hy; subst hy; exact ⟨e1, e2⟩
  ·intro y hy; simp at hy
 have hb := bak_split h3 h4 hM
 rw [← h1, ← hc, ← hi] at hb
 have hins : insB w ((A ++ D).map cpW) = A.map cpW ++ w :: D.map cpW := by
  rw [List.map_append]
  refine insB_at w _ (fun b hb => ?_) _ (fun a ha => ?_)
  ·obtain ⟨y, hy, rfl⟩ := List.mem_map.1 hb
   have := h4 y hy
   unfold bef at *
   rw [hc, hi]; exact this
  ·obtain ⟨y, hy, rfl⟩ := List.mem_map.1 ha
   have := bef_asym (h3 y hy)
   unfold bef at *
   rw [hc, hi]; exact this
 have hn : (bakL l w.c w.id).length = A.length + D.length := by rw [hb, List.length_map, List.length_append]
 have hq : (A ++ w :: D).map qW = (insB w ((A ++ D).map cpW)).map qW := by
  rw [hins, List.map_append, List.map_append, List.map_cons, List.map_cons, qW_cp, qW_cp]
 have hll := congrArg List.length h1
 simp only [List.length_append] at hll
 unfold layEw rwE rwO layLw
 rw [hn, hb]
 rcases h5 with ⟨hB, x, rfl, e1, e2⟩ | ⟨hB, rfl⟩
 ·rw [hB]
  simp only [List.length_cons, List.length_nil] at hll
  rw [if_pos rfl, if_pos rfl, if_neg (by omega), if_neg (by omega)]
  refine ⟨rfl, fun _ => ?_, fun h => absurd rfl h⟩
  rw [lst_some, ← h2, h1, map_set_mid]
  exact hq
 ·rw [hB]
  simp only [List.length_nil] at hll
  simp only [Bool.false_eq_true, if_false]
  by_cases h12 : l.length = 12
  ·have h13 : A.length + D.length = 12 := by omega
   simp only [h12, h13, if_true]
   exact ⟨trivial, fun h => absurd h (by decide), fun _ => trivial⟩
  ·have h13 : ¬ A.length + D.length = 12 := by omega
   simp only [h12, h13, if_false]
   refine ⟨trivial, fun _ => ?_, fun h => absurd rfl h⟩
   unfold insW
   rw [← h2, h1, List.take_left, List.drop_left, lst_some, List.nil_append]
   exact hq
theorem put_ref (l : List Wr) (o : Op) (hr : rightW l = true) : putE l o.c (opR o) = rpE l o.c (opR o) ∧ (putL l o.c (opR o)).map qW = (lst (rpO l o.c (opR o))).map qW := by
 obtain ⟨h1, h2, h3⟩ := lay_with (k := putW o.c (opR o)) (rpW o.c (opR o)) hr rfl rfl
 unfold putL putE wE putE0 rpE rpO
 rw [hr]
 simp only [Bool.true_eq_false, if_false]
 cases hc : collB o.c
 ·simp [lst]
 simp only [Bool.true_eq_false, if_false]
 cases hv : okV (opR o).v
 ·simp [lst]
 simp only [if_true, Bool.true_eq_false, if_false]
 rw [h1]
 refine ⟨rfl, ?_⟩
 by_cases hE : rwE l (rpW o.c (opR o)) = 0
 ·rw [if_pos hE, ← h2 hE]
  unfold putL0
  have e : ∀ (p : Nat) (b : Bool), (layLw l p b (putW o.c (opR o))).map qW = (layLw l p b (rpW o.c (opR o))).map qW := fun p b => by
   unfold layLw insW
   split
   ·rw [List.map_set, List.map_set]; rfl
   ·split
    ·rfl
    ·rw [List.map_append, List.map_append, List.map_cons, List.map_cons]; rfl
  exact e _ _
 ·rw [if_neg hE, h3 hE]; rfl
theorem saw (l : List Wr) (o : Op) (hr : rightW l = true) : delE0 l (opK o) o.th = (if noB (fdW l o.c o.id) o.th = true then 4 else if o.th = false then 0 else layEw l (bsB l (opK o))) ∧
 delL0 l (opK o) o.th = (if noB (fdW l o.c o.id) o.th = true then l else if o.th = false then l.take (bsP l (opK o)) ++ l.drop (bsP l (opK o) + 1) else layLw l (bsP l (opK o)) (bsB l (opK o)) ⟨o.c, o.id, true, none⟩) := by
 have hf := bs_find (k := opK o) (w_pair hr)
 have hf' : fdW l o.c o.id = if bsB l (opK o) = true then l[bsP l (opK o)]? else none := hf
 have hck : (opK o).c = o.c := rfl
 have hik : (opK o).id = o.id := rfl
 obtain ⟨A, M, D, e1, e2, e3, e4, e5⟩ := bs_split (opK o) (w_pair hr)
 unfold delE0 delL0
 rw [hf', hck, hik]
 rcases e5 with ⟨hB, x, rfl, f1, f2⟩ | ⟨hB, rfl⟩
 ·have : l[bsP l (opK o)]? = some x := by rw [← e2, e1, List.getElem?_append_right (Nat.le_refl _), Nat.sub_self]; rfl
  rw [hB]
  simp only [if_true, this, noB]
  cases x.g <;> simp
 ·rw [hB]
  simp only [Bool.false_eq_true, if_false, noB]
  cases o.th <;> simp
theorem del_ref (l : List Wr) (o : Op) (hr : rightW l = true) : delE l (opK o) o.th = rdE l o.c o.id o.th ∧ (delL l (opK o) o.th).map qW = (lst (rdO l o.c o.id o.th)).map qW := by
 obtain ⟨h1, h2, h3⟩ := lay_with (k := opK o) ⟨o.c, o.id, true, none⟩ hr rfl rfl
 have hs := bs_split (opK o) (w_pair hr)
 have hseen := saw l o hr
 have hck : (opK o).c = o.c := rfl
 have hik : (opK o).id = o.id := rfl
 unfold delL delE wE rdE rdO
 rw [hr, hseen.1, hseen.2, hck]
 simp only [Bool.true_eq_false, if_false]
 cases hc : collB o.c
 ·simp [lst]
 simp only [Bool.true_eq_false, if_false]
 cases hn : noB (fdW l o.c o.id) o.th
 ·simp only [Bool.false_eq_true, if_false]
  cases ht : o.th
  ·simp only [if_true]
   refine ⟨trivial, ?_⟩
   obtain ⟨A, M, D, e1, e2, e3, e4, e5⟩ := hs
   have hM : ∀ x ∈ M, x.c = (opK o).c ∧ x.id = (opK o).id := by
    rcases e5 with ⟨-, x, rfl, f1, f2⟩ | ⟨-, rfl⟩
    ·intro y hy; simp only [List.mem_cons, List.not_mem_nil, or_false] at hy; subst hy; exact ⟨f1, f2⟩
    ·intro y hy; simp at hy
   have hb := bak_split e3 e4 hM
   rw [← e1] at hb
   rw [hck, hik] at hb
   rw [lst_oL, hb, qW_cp]
   rcases e5 with ⟨hB, x, rfl, f1, f2⟩ | ⟨hB, rfl⟩
   ·rw [← e2]
    conv => lhs; rw [e1]
    rw [List.take_left, ← List.drop_drop, List.drop_left]
    rfl
   ·exfalso
    have hf := bs_find (k := opK o) (w_pair hr)
    have hf' : fdW l o.c o.id = if bsB l (opK o) = true then l[bsP l (opK o)]? else none := hf
    rw [hf', hB, ht] at hn
    simp [noB] at hn
  ·simp only [Bool.true_eq_false, if_false]
   rw [h1]
   refine ⟨rfl, ?_⟩
   by_cases hE : rwE l ⟨o.c, o.id, true, none⟩ = 0
   ·rw [if_pos hE, ← h2 hE]
   ·rw [if_neg hE, h3 hE]; rfl
 ·simp [lst]
theorem run_wants (l : List Wr) (o : Op) : runE l o = woE l o ∧ (runL l o).map qW = (lst (woO l o)).map qW := by
 unfold runE runL woE woO
 cases hr : rightW l
 ·simp only [if_true]
  unfold delL putL delE putE wE
  rw [hr]
  simp [lst]
 simp only [Bool.true_eq_false, if_false]
 split
 ·exact del_ref l o hr
 ·exact put_ref l o hr
end Go.Q.SV
end

section
/- The layer does something. -/
namespace Go.Q.SV
open Go.Q
def isTrue' : Option Out → Bool
 | some (.val (.bool true)) => true
 | _ => false
theorem isTrue_eq {o : Option Out} (h : isTrue' o = true) : o = some (.val (.bool true)) := by
 unfold isTrue' at h
 split at h
 ·rfl
 ·cases h
theorem r8 : res T 8 [] = some (.bool true) := by
 have h : isTrue' (exJob T 150 (.pure 8 [])) = true := by decide +kernel
 exact run_res (exJob_sound 150 _ _ (isTrue_eq h))
theorem f8 (fs : Bool) (σ : Sto) (n lk : Nat) : callE T fs 8 [] σ n lk = some (.bool true, σ, n) := callE_tr (by decide) r8 rfl rfl fs σ n lk
end Go.Q.SV
end

section
/- WritesDo, the law. -/
namespace Go.Q.SV
open Go.Q
def Okw (L : List Wr) : Prop := L.length ≤ 13 ∧ ∀ w ∈ L, (lst w.v).length ≤ 5 ∧ w.v = some (lst w.v)
theorem Okw.fit {L : List Wr} (h : Okw L) : FitW L := ⟨by have := h.1; omega, fun w hw => by have := (h.2 w hw).1; omega⟩
theorem Okw.sm {L : List Wr} (h : Okw L) : SmW (oL L) := ⟨by rw [lst_oL]; have := h.1; omega, fun w hw => by rw [lst_oL] at hw; have := (h.2 w hw).1; unfold Sm; omega⟩
theorem Okw.cp {L : List Wr} (h : Okw L) : L.map cpW = L := by
 have : L.map cpW = L.map id := List.map_congr_left (fun w hw => by
  have := (h.2 w hw).2
  obtain ⟨c, i, g, v⟩ := w
  unfold cpW Go.Q.SV.cp
  simp only at this ⊢
  rw [← this]; rfl)
 rw [this, List.map_id]
theorem cut_len (v : Vc) : (lst (cut v)).length ≤ 5 := by unfold cut; rw [lst_some, List.length_take]; omega
theorem Okw.few (x : List Wr) : Okw ((x.take 13).map cutW) := ⟨by rw [List.length_map, List.length_take]; omega, fun f hf => by
 obtain ⟨g, hg, rfl⟩ := List.mem_map.1 hf
 exact ⟨cut_len _, rfl⟩⟩
def Lim (L : List Wr) : Prop := L.length ≤ 13 ∧ ∀ w ∈ L, (lst w.v).length ≤ 5
theorem Lim.nil : Lim [] := ⟨by simp, fun _ h => by simp at h⟩
theorem Lim.cp {L : List Wr} (h : Lim L) : Okw (L.map cpW) := ⟨by rw [List.length_map]; exact h.1, fun w hw => by
 obtain ⟨y, hy, rfl⟩ := List.mem_map.1 hw
 exact ⟨h.2 y hy, rfl⟩⟩
theorem Lim.sm {o : Option (List Wr)} (h : Lim (lst o)) : SmW o := ⟨by have := h.1; omega, fun w hw => by have := h.2 w hw; unfold Sm; omega⟩
theorem Lim.fit {L : List Wr} (h : Lim L) : FitW L := ⟨by have := h.1; omega, fun w hw => by have := h.2 w hw; omega⟩
theorem Lim.q {l m : List Wr} (h : l.map qW = m.map qW) (hm : Lim m) : Lim l := by
 refine ⟨?_, fun w hw => ?_⟩
 ·have := congrArg List.length h
  rw [List.length_map, List.length_map] at this
  have := hm.1; omega
 ·have : qW w ∈ m.map qW := by rw [← h]; exact List.mem_map.2 ⟨w, hw, rfl⟩
  obtain ⟨y, hy, e⟩ := List.mem_map.1 this
  have := hm.2 y hy
  unfold qW at e
  simp only [Prod.mk.injEq] at e
  rw [← e.2.2.2]; exact this
theorem ins_mem {w y : Wr} : ∀ {B : List Wr}, y ∈ insB w B → y = w ∨ y ∈ B
 | [], h => by
   have : y ∈ [w] := h
   simp only [List.mem_cons, List.not_mem_nil, or_false] at this
   exact .inl this
 | b :: B, h => by
   have h' : y ∈ (if bef w b = true then w :: b :: B else b :: insB w B) := h
   split at h'
   ·rcases List.mem_cons.1 h' with e | e
    ·exact .inl e
    ·exact .inr e
   ·rcases List.mem_cons.1 h' with e | e
    ·exact .inr (by rw [e]; exact List.mem_cons_self)
    ·rcases ins_mem e with e | e
     ·exact .inl e
     ·exact .inr (List.mem_cons_of_mem _ e)
theorem bak_lim {L : List Wr} (hl : L.length ≤ 12) (hv : ∀ w ∈ L, (lst w.v).length ≤ 5) (c id : Int) : (bakL L c id).length ≤ 12 ∧ ∀ w ∈ bakL L c id, (lst w.v).length ≤ 5 := by
 unfold bakL
 refine ⟨?_, fun w hw => ?_⟩
 ·have := List.length_filter_le (noK c id) (L.map cpW)
  rw [List.length_map] at this
  omega
 ·obtain ⟨y, hy, rfl⟩ := List.mem_map.1 (List.mem_filter.1 hw).1
  exact hv y hy
theorem with_lim {L : List Wr} (hl : L.length ≤ 12) (hv : ∀ w ∈ L, (lst w.v).length ≤ 5) {w : Wr} (hw : (lst w.v).length ≤ 5) : Lim (lst (rwO L w)) := by
 obtain ⟨h1, h2⟩ := bak_lim hl hv w.c w.id
 unfold rwO
 split
 ·exact Lim.nil
 ·rw [lst_some]
  refine ⟨by rw [insB_len]; omega, fun y hy => ?_⟩
  rcases ins_mem hy with rfl | hy
  ·exact hw
  ·exact h2 y hy
theorem wants_lim {L : List Wr} (h : Okw L) (o : Op) : Lim (lst (woO L o)) := by
 unfold woO
 cases hr : rightW L
 ·exact Lim.nil
 have hl := rightW_len hr
 have hv : ∀ w ∈ L, (lst w.v).length ≤ 5 := fun w hw => (h.2 w hw).1
 simp only [Bool.true_eq_false, if_false]
 split
 ·unfold rdO
  split
  ·exact Lim.nil
  ·split
   ·exact Lim.nil
   ·split
    ·rw [lst_oL]
     obtain ⟨h1, h2⟩ := bak_lim hl hv o.c o.id
     exact ⟨by omega, h2⟩
    ·exact with_lim hl hv (by simp [lst])
 ·unfold rpO
  split
  ·exact Lim.nil
  ·split
   ·exact Lim.nil
   ·exact with_lim hl hv (cut_len _)
theorem frz_opV (σ : Sto) (o : Op) (k : Nat) : Go.Q.frz σ (k + 2) (opV o) = some (opV o) := by
 simp only [opV_eq, frz_agg, List.mapM_cons, List.mapM_nil, frz_int, frz_bool, frz_slV]; rfl
theorem t11 {σ : Sto} {n : Nat} (l : Option (List Wr)) (o : Op) (hl : FitW (lst l)) (hll : (lst l).length ≤ 1000) (hv : Sm o.v) :
 ∃ nv σ' n' q, callE T true 11 [opV o, slV 4 wrV l] σ n 0 = some (.tup [nv, .int .i64 (runE (lst l) o)], σ', n') ∧ lst q = runL (lst l) o ∧ Chn σ' n n' nv q ∧ n ≤ n' ∧ ∀ j, j < n → σ' j = σ j := by
 obtain ⟨x, h1, q, h2, h3, rfl⟩ := r11 l o hl hll hv
 obtain ⟨lv, σ', n', g1, g2, g3, g4, g5⟩ := thaw_ownW σ n q
 have m1 : [opV o, slV 4 wrV l].mapM (Go.Q.frz σ 12) = some [opV o, slV 4 wrV l] := by
  simp only [List.mapM_cons, List.mapM_nil, frz_slV, frz_opV]; rfl
 have hf : flat (.tup [ownW' q, .int .i64 (runE (lst l) o)]) = true := by show (flat (ownW' q) && _) = true; rw [flat_ownW]; rfl
 have := callE_flat (f := 11) (by decide) m1 h1 hf true n 0
 refine ⟨lv, σ', n', q, ?_, h2, g2, g3, g5⟩
 rw [this, thaw_tup, thawL_cons, g1]
 rfl
def ShV (σ : Sto) (a b id : Nat) (vv : V) : Prop := vv = .nilS ∨ ∃ k xs, vv = .ref k 0 (List.length xs) 1 ∧ a ≤ k ∧ k < b ∧ k ≠ id ∧ σ k = some (.row 1 (List.map i32V xs)) ∧ List.length xs ≤ 1000
def ShE (σ : Sto) (a b id : Nat) (x : V) : Prop := ∃ c i g vv, x = .agg [.int .i64 c, .int .u64 i, .bool g, vv] ∧ ShV σ a b id vv
def Shp (σ : Sto) (a b : Nat) (v : V) (N : Nat) : Prop := (v = .nilS ∧ N = 0) ∨ ∃ id rows, v = .ref id 0 N 4 ∧ rows.length = N ∧ σ id = some (.row 4 rows) ∧ a ≤ id ∧ id < b ∧ ∀ x ∈ rows, ShE σ a b id x
theorem ShV.loc {σ σ' : Sto} {a b id : Nat} {x : V} (h : ShV σ a b id x) (hs : ∀ i, a ≤ i → i < b → i ≠ id → σ' i = σ i) : ShV σ' a b id x := by
 rcases h with h | ⟨k, xs, a1, a2, a3, a4, a5, a6⟩
 ·exact .inl h
 ·exact .inr ⟨k, xs, a1, a2, a3, a4, by rw [hs k a2 a3 a4]; exact a5, a6⟩
theorem ShE.loc {σ σ' : Sto} {a b id : Nat} {x : V} (h : ShE σ a b id x) (hs : ∀ i, a ≤ i → i < b → i ≠ id → σ' i = σ i) : ShE σ' a b id x := by
 obtain ⟨c, i, g, vv, e, h⟩ := h
 exact ⟨c, i, g, vv, e, h.loc hs⟩
theorem Chn.shp {σ : Sto} {a b : Nat} {v : V} {o : Option (List Wr)} (h : Chn σ a b v o) (hb : ∀ w ∈ lst o, (lst w.v).length ≤ 1000) : Shp σ a b v (lst o).length := by
 cases o with
 | none => exact .inl ⟨h, rfl⟩
 | some L =>
   obtain ⟨id, P, rfl, h0, h1, h2, h3, h4⟩ := h
   have hl : P.length = L.length := by rw [← h0, List.length_map]
   refine .inr ⟨id, _, rfl, by rw [List.length_map]; exact hl, h1, (h3 id List.mem_cons_self).1, (h3 id List.mem_cons_self).2, fun x hx => ?_⟩
   obtain ⟨y, hy, rfl⟩ := List.mem_map.1 hx
   refine ⟨_, _, _, _, rfl, ?_⟩
   have hok := h4 y hy
   obtain ⟨w, o⟩ := y
   cases o with
   | none => exact .inl rfl
   | some k =>
     have hm : k ∈ idsP P := mem_ids.2 ⟨_, hy, rfl⟩
     exact .inr ⟨k, lst w.v, rfl, (h3 k (List.mem_cons_of_mem _ hm)).1, (h3 k (List.mem_cons_of_mem _ hm)).2, fun e => (List.nodup_cons.1 h2).1 (by rw [← e]; exact hm), hok.2, hb w (by rw [lst_some, ← h0]; exact List.mem_map.2 ⟨_, hy, rfl⟩)⟩
theorem mem_set {α : Type} {l : List α} {j : Nat} {x y : α} (h : y ∈ l.set j x) : y = x ∨ y ∈ l := by
 rcases List.mem_or_eq_of_mem_set h with h | h
 ·exact .inr h
 ·exact .inl h
theorem she_id {σ : Sto} {a b id : Nat} {rows : List V} (h : ∀ x ∈ rows, ShE σ a b id x) (j : Nat) {c : Int} (i' : Int) {g : Bool} {vv : V} (o : Option Ob) (hx : ShV σ a b id vv) :
 ∀ x ∈ rows.set j (.agg [.int .i64 c, .int .u64 i', .bool g, vv]), ShE (upd σ id o) a b id x := by
 intro x hm
 rcases mem_set hm with rfl | hm
 ·exact ⟨c, i', g, vv, rfl, hx.loc (fun i _ _ hi => upd_ne hi)⟩
 ·exact (h x hm).loc (fun i _ _ hi => upd_ne hi)
theorem she_vec {σ : Sto} {a b id k : Nat} {xs ys : List Int} (hk : σ k = some (.row 1 (xs.map i32V))) (hl : ys.length = xs.length) {x : V} (h : ShE σ a b id x) : ShE (upd σ k (some (.row 1 (ys.map i32V)))) a b id x := by
 obtain ⟨c, i, g, vv, e, h⟩ := h
 refine ⟨c, i, g, vv, e, ?_⟩
 rcases h with h | ⟨k2, xs2, e2, a1, a2, a3, a4, a5⟩
 ·exact .inl h
 by_cases hkk : k2 = k
 ·subst hkk
  rw [hk] at a4
  have : xs2.length = xs.length := by
   have := congrArg (fun o => match o with | some (Ob.row _ r) => List.length r | _ => 0) a4
   simpa using this.symm
  exact .inr ⟨k2, ys, by rw [hl, ← this]; exact e2, a1, a2, a3, upd_self _ _ _, by omega⟩
 ·exact .inr ⟨k2, xs2, e2, a1, a2, a3, by rw [upd_ne hkk]; exact a4, a5⟩
theorem ShV.lenE {σ : Sto} {a b id : Nat} {vv : V} (h : ShV σ a b id vv) : ∃ N : Nat, N ≤ 1000 ∧ Go.Q.lenE vv = some (.int .i64 (N : Int)) ∧ vv.cells = [vv] ∧ vv.one = true := by
 rcases h with rfl | ⟨k, xs, rfl, -, -, -, -, hx⟩
 ·exact ⟨0, by omega, rfl, rfl, rfl⟩
 ·exact ⟨xs.length, hx, by rw [lenE_ref], rfl, rfl⟩
end Go.Q.SV
end

section
/- WritesDo, the law walked. -/
namespace Go.Q.SV
open Go.Q
theorem r3 (x : Option (List Wr)) (cs : Option (List Op)) (hx : SmW x) (hcl : (lst cs).length < 4611686018427387904) (hc : ∀ o ∈ lst cs, Sm o.v) : res T 3 [slV 4 wrV x, slV 5 opV cs] = some (.bool true) := by
 refine run_res (run_pure (fn := g3) rfl rfl (by decide) ?_)
 simp only [g3, b3, zO, zN, zM, zL, zG, zP, zQ, zI, zA, zT, zF, zB, zC, zD, zE, zH, zJ, zK]
 have f9' := f9 x hx
 have hm13 : T.mode 13 ≠ .raw := by decide
 have hB := big_le
 simp +contextual -implicitDefEqProofs (maxSteps := 2000000) only [↓wP, wS, seval, f8, f9']
 refine WC_for (lst cs).length 0 (fun (j : Nat) env σ n => env 19 = slV 5 opV cs ∧ ∃ L, env 5 = slV 4 wrV (oL L) ∧ j ≤ 30 ∧ Okw L) (by omega) (by decide) (by decide) (fun _ _ => rfl) (fun _ _ _ => rfl) ?_ ?_ _ _ _ rfl rfl ?_
 ·intro j env σ n hj h1 h2 ⟨g1, L, g2, g3, g4⟩
  simp only [vl_tmp] at h2
  have hxj : (lst cs)[j]? = some (lst cs)[j] := List.getElem?_eq_getElem hj
  have hcj := hc _ (List.getElem_mem hj)
  generalize (lst cs)[j] = o at *
  by_cases h12 : j = 30
  ·have hd : ((j : Int) == 30) = true := by rw [h12]; rfl
   simp +contextual -implicitDefEqProofs (maxSteps := 2000000) only [↓wP, wS, seval, h1, h2, g1, hxj, opV_eq, hd]
  have hd : ((j : Int) == 30) = false := by simp; omega
  obtain ⟨σ1, hσ1⟩ : ∃ σ1, σ1 = upd (upd σ n (some (.row 5 [.agg [.bool false, .bool false, .int .i64 0, .int .u64 0, .nilS]]))) n (some (.row 5 [.agg [.bool o.d, .bool o.th, .int .i64 o.c, .int .u64 o.id, slV 1 i32V o.v]])) := ⟨_, rfl⟩
  have sn : σ1 n = some (.row 5 [.agg [.bool o.d, .bool o.th, .int .i64 o.c, .int .u64 o.id, slV 1 i32V o.v]]) := by rw [hσ1, upd_self]
  have hfit : FitW (lst (oL L)) := by rw [lst_oL]; exact g4.fit
  have hlen : (lst (oL L)).length ≤ 1000 := by rw [lst_oL]; have := g4.1; omega
  have c10 := f10 (oL L) hfit
  have hcp : cpWs (oL L) = oL L := by unfold cpWs; rw [lst_oL, g4.cp]
  rw [hcp] at c10
  obtain ⟨nv, σ2, n2, q, c11, q1, q2, q3, q4⟩ := t11 (σ := σ1) (n := n + 1) (oL L) o hfit hlen hcj
  have c12 := f12 (oL L) o hfit hlen hcj
  obtain ⟨rw1, rw2⟩ := run_wants L o
  rw [lst_oL] at c11 q1 c12
  have wl := wants_lim g4 o
  rw [rw1] at c11
  obtain ⟨E, hE⟩ : ∃ E, E = woE L o := ⟨_, rfl⟩
  obtain ⟨W, hW⟩ : ∃ W, W = woO L o := ⟨_, rfl⟩
  rw [← hE] at c11 c12
  rw [← hW] at c12 wl rw2
  have hqW : (lst q).map qW = (lst W).map qW := by rw [q1]; exact rw2
  have hqL : Lim (lst q) := Lim.q hqW wl
  have sn2 : σ2 n = some (.row 5 [.agg [.bool o.d, .bool o.th, .int .i64 o.c, .int .u64 o.id, slV 1 i32V o.v]]) := by rw [q4 n (by omega)]; exact sn
  have x0 : ∀ hid, hide σ2 n2 n2 hid n = σ2 n := fun hid => hide_low _ _ _ _ (by omega) (Nat.le_refl _)
  have m9 : [nv, slV 4 wrV W].mapM (Go.Q.frz σ2 12) = some [slV 4 wrV q, slV 4 wrV W] := by
   simp only [List.mapM_cons, List.mapM_nil, q2.frz 9, frz_slV]; rfl
  have w9 := callE_flat hm13 m9 (r13 q W hqL.sm wl.sm) rfl true n2 0
  rw [thaw_bool, same_qw hqW] at w9
  have c13 := f13 (oL L) (oL L) g4.sm g4.sm
  rw [same_qw rfl] at c13
  have c10b := f10 W (Lim.fit wl)
  have hcpW : cpWs W = oL ((lst W).map cpW) := rfl
  have nc := q2.cells
  have no := q2.one
  obtain ⟨N, hN⟩ : ∃ N, N = (lst q).length := ⟨_, rfl⟩
  have hle := q2.lenE
  rw [← hN] at hle
  have hshp := q2.shp (fun w hw => by have := hqL.2 w hw; omega)
  rw [← hN] at hshp
  have hNl : N ≤ 13 := by rw [hN]; exact hqL.1
  have hopV : opV o = .agg [.bool o.d, .bool o.th, .int .i64 o.c, .int .u64 o.id, slV 1 i32V o.v] := rfl
  rw [hopV] at c11 c12
  obtain ⟨Wc, hWc⟩ : ∃ Wc, Wc = (lst W).map cpW := ⟨_, rfl⟩
  have okc : Okw Wc := by rw [hWc]; exact wl.cp
  rw [hcpW, ← hWc] at c10b
  simp +contextual -implicitDefEqProofs (maxSteps := 2000000) only [↓wP, wS, seval, h1, h2, g1, g2, hxj, opV_eq, hd, ← hσ1, sn, c10, c11, sn2, x0, c12, nc, no, w9, c13, c10b, hle]
  refine WC_cutB (fun env σ n0 => env 5 = slV 4 wrV (oL L) ∧ env 8 = slV 4 wrV (oL L) ∧ env 10 = .int .i64 E ∧ env 11 = slV 4 wrV (oL Wc) ∧ env 19 = slV 5 opV cs ∧ env 20 = .int .i64 ((lst cs).length : Int) ∧ env 21 = .int .i64 (j : Int)) ?_ ?_
  ·refine WC_for N 0 (fun (j' : Nat) env σ n0 => env 5 = slV 4 wrV (oL L) ∧ env 8 = slV 4 wrV (oL L) ∧ env 9 = nv ∧ env 10 = .int .i64 E ∧ env 11 = slV 4 wrV (oL Wc) ∧ env 19 = slV 5 opV cs ∧ env 20 = .int .i64 ((lst cs).length : Int) ∧ env 21 = .int .i64 (j : Int) ∧ n2 ≤ n0 ∧ Shp σ (n + 1) n2 nv N) (by omega) (by decide) (by decide) (fun _ _ => rfl) (fun _ _ _ => rfl) ?_ ?_ _ _ _ rfl rfl ?_
   ·clear h1 h2 g1 g2
    intro j' env σ n0 hj' e1 e2 ⟨c1, c2, c3, c4, c5, c6, c7, c8, d1, d3⟩
    simp only [vl_tmp] at e2
    rcases d3 with ⟨-, hz⟩ | ⟨id, rows, rfl, d4, d5, d6, d7, d8⟩
    ·omega
    have hxr : rows[j']? = some (rows[j']'(by omega)) := List.getElem?_eq_getElem (by omega)
    obtain ⟨cc, i, g, vv, a1, a2⟩ := d8 _ (List.getElem_mem (by omega : j' < rows.length))
    rw [a1] at hxr
    obtain ⟨NV, v0, v1, v2, v3⟩ := a2.lenE
    obtain ⟨i', hi'⟩ : ∃ i', i' = IntKind.u64.wrap (i + 1) := ⟨_, rfl⟩
    have b6 := she_id d8 j' (c := cc) i' (g := g) (some (.row 4 (rows.set j' (.agg [.int .i64 cc, .int .u64 i', .bool g, vv])))) a2
    have a2' := a2.loc (σ' := upd σ id (some (.row 4 (rows.set j' (.agg [.int .i64 cc, .int .u64 i', .bool g, vv]))))) (fun k _ _ hk => upd_ne hk)
    obtain ⟨rows2, hr2⟩ : ∃ rows2, rows2 = rows.set j' (.agg [.int .i64 cc, .int .u64 i', .bool g, vv]) := ⟨_, rfl⟩
    rw [← hr2] at b6 a2'
    obtain ⟨σa, hσa⟩ : ∃ σa, σa = upd σ id (some (.row 4 rows2)) := ⟨_, rfl⟩
    rw [← hσa] at b6 a2'
    have b2 : rows2.length = N := by rw [hr2, List.length_set]; exact d4
    have hrow : σa id = some (.row 4 rows2) := by rw [hσa, upd_self]
    have hxr2 : rows2[j']? = some (.agg [.int .i64 cc, .int .u64 i', .bool g, vv]) := by
     rw [hr2, List.getElem?_set_self (by omega)]
    simp +contextual -implicitDefEqProofs (maxSteps := 2000000) only [↓wP, wS, seval, e1, e2, c1, c2, c3, c4, c5, c6, c7, c8, hj', d5, hxr, ← hi', ← hr2, ← hσa, hrow, hxr2, v1, v2, v3]
    refine WC_cutB (fun env σ n0 => env 5 = slV 4 wrV (oL L) ∧ env 8 = slV 4 wrV (oL L) ∧ env 9 = .ref id 0 N 4 ∧ env 10 = .int .i64 E ∧ env 11 = slV 4 wrV (oL Wc) ∧ env 19 = slV 5 opV cs ∧ env 20 = .int .i64 ((lst cs).length : Int) ∧ env 21 = .int .i64 (j : Int) ∧
     env 61 = .int .i64 (N : Int) ∧ env 62 = .int .i64 (j' : Int) ∧ n2 ≤ n0 ∧ Shp σ (n + 1) n2 (.ref id 0 N 4) N) ?_ ?_
    ·refine WC_for NV 0 (fun (q : Nat) env σ n0 => env 5 = slV 4 wrV (oL L) ∧ env 8 = slV 4 wrV (oL L) ∧ env 9 = .ref id 0 N 4 ∧ env 10 = .int .i64 E ∧ env 11 = slV 4 wrV (oL Wc) ∧ env 13 = .int .i64 (j' : Int) ∧ env 19 = slV 5 opV cs ∧ env 20 = .int .i64 ((lst cs).length : Int) ∧ env 21 = .int .i64 (j : Int) ∧
      env 61 = .int .i64 (N : Int) ∧ env 62 = .int .i64 (j' : Int) ∧ n2 ≤ n0 ∧ σ id = some (.row 4 rows2) ∧ ShV σ (n + 1) n2 id vv ∧ (∀ x ∈ rows2, ShE σ (n + 1) n2 id x)) (by omega) (by decide) (by decide) (fun _ _ => rfl) (fun _ _ _ => rfl) ?_ ?_ _ _ _ rfl rfl ?_
     ·clear c1 c2 c3 c4 c5 c6 c7 c8 e1 e2 d1
      intro q env σ n0 hq e1 e2 ⟨c1, c2, c3, c4, c5, c11, c6, c7, c8, c9, c10, d1, u1, u3, u4⟩
      simp only [vl_tmp] at e2
      rcases u3 with rfl | ⟨k, ys, rfl, f1, f2, f3, f4, f5⟩
      ·have : NV = 0 := by
        have := v1
        simp only [lenE_nil, Option.some.injEq, V.int.injEq, true_and] at this
        omega
       omega
      have hNV : ys.length = NV := by
       have := v1
       rw [lenE_ref] at this
       simp only [Option.some.injEq, V.int.injEq, true_and] at this
       omega
      have hy : (ys.map i32V)[q]? = some (.int .i32 (ys[q]'(by omega))) := by rw [List.getElem?_map, List.getElem?_eq_getElem (by omega)]; rfl
      have hq2 : q < (ys.map i32V).length := by rw [List.length_map]; omega
      have hq3 : q < ys.length := by omega
      have hset : ∀ v, (ys.map i32V).set q (.int .i32 v) = (ys.set q v).map i32V := fun v => by rw [List.map_set]; rfl
      obtain ⟨z, hz⟩ : ∃ z, z = IntKind.i32.wrap ((BitVec.ofInt IntKind.i32.bits ys[q] ^^^ BitVec.ofInt IntKind.i32.bits 85).toNat : Int) := ⟨_, rfl⟩
      obtain ⟨σb, hσb⟩ : ∃ σb, σb = upd σ k (some (.row 1 ((ys.set q z).map i32V))) := ⟨_, rfl⟩
      simp +contextual -implicitDefEqProofs (maxSteps := 2000000) only [↓wP, wS, seval, e1, e2, c1, c2, c3, c4, c5, c6, c7, c11, c8, c9, c10, hj', hq, hq3, u1, f4, hxr2, hy, hq2, bin_xor, hset, ← hz, ← hσb]
      have hl2 : (ys.set q z).length = ys.length := List.length_set
      exact ⟨d1, by rw [hσb, upd_ne (fun e => f3 e.symm)]; exact u1, .inr ⟨k, ys.set q z, by rw [hl2], f1, f2, f3, by rw [hσb, upd_self], by omega⟩, fun x hx => by rw [hσb]; exact she_vec f4 hl2 (u4 x hx)⟩
     ·intro env σ n0 ⟨c1, c2, c3, c4, c5, c11, c6, c7, c8, c9, c10, d1, u1, _, u4⟩ e1 e2
      exact ⟨rfl, rfl, c1, c2, c3, c4, c5, c6, c7, c8, c9, c10, d1, .inr ⟨id, rows2, rfl, b2, u1, d6, d7, u4⟩⟩
     ·refine ⟨?_, ?_, ?_, ?_, ?_, ?_, ?_, ?_, ?_, ?_, ?_, d1, hrow, a2', b6⟩
      all_goals simp +contextual -implicitDefEqProofs (maxSteps := 2000000) only [↓wP, wS, seval, e1, e2, c1, c2, c3, c4, c5, c6, c7, c8]
    ·clear c1 c2 c3 c4 c5 c6 c7 c8 e1 e2 d1
     intro env σ n0 ⟨c1, c2, c3, c4, c5, c6, c7, c8, e2, e1, d1, d3⟩
     simp +contextual -implicitDefEqProofs (maxSteps := 2000000) only [↓wP, wS, seval, e1, e2, c1, c2, c3, c4, c5, c6, c7, c8]
     exact ⟨d1, d3⟩
   ·intro env σ n0 ⟨c1, c2, c3, c4, c5, c6, c7, c8, d1, d3⟩ e1 e2
    exact ⟨rfl, rfl, c1, c2, c4, c5, c6, c7, c8⟩
   ·simp +contextual -implicitDefEqProofs (maxSteps := 2000000) only [↓wP, wS, seval, h1, h2, g1, g2]
    exact hshp
  ·intro env σ n0 ⟨c1, c2, c4, c5, c6, c7, c8⟩
   by_cases hE0 : E = 0
   ·have hz : (E == 0) = true := by simp [hE0]
    simp +contextual -implicitDefEqProofs (maxSteps := 2000000) only [↓wP, wS, seval, c1, c2, c4, c5, c6, c7, c8, c13, hz]
    exact ⟨Wc, rfl, by omega, okc⟩
   ·have hz : (E == 0) = false := by simp [hE0]
    simp +contextual -implicitDefEqProofs (maxSteps := 2000000) only [↓wP, wS, seval, c1, c2, c4, c5, c6, c7, c8, c13, hz]
    exact ⟨L, rfl, by omega, g4⟩
 ·intro env σ n ⟨g1, _⟩ h1 h2
  simp +contextual -implicitDefEqProofs (maxSteps := 2000000) only [↓wP, wS, seval]
 ·refine ⟨rfl, (lst x).take 13 |>.map cutW, rfl, by omega, Okw.few _⟩
end Go.Q.SV
end

section
/- slices.Insert and slices.Delete of rows of writes, walked. -/
namespace Go.Q.S16
open Go.Proofs Go.Shelf Go.RowKit Go.Lib
set_option maxHeartbeats 4000000 in
set_option maxRecDepth 100000 in
theorem ins_end (base : Option Addr) (n c vb vc : Nat) (w w1 : World) (u : Value) (hr : ∀ ty, (Builtin.append_ #[22, 22] ty #[.slice base n c, .slice (some ⟨vb, 0, none⟩) 1 vc]).run Try.prog w = .ok u w1) :
 Calls Try.prog 69 #[.slice base n c, .int .i64 n, .slice (some ⟨vb, 0, none⟩) 1 vc] w fun e w' => e = .returned u ∧ w' = w1 := by
 have hnn : n ≤ n := Nat.le_refl _
 cases base with
 | none =>
   go_enter Try.func69, Try.ntmps69
   go_wp2_with (at_builtin; refine Lib.wpList_append_run _ rfl _ _ _ _ rfl _ _ rfl rfl _ _ (hr _) ?_)
   all_goals (go_ret; exact ⟨rfl, rfl⟩)
 | some a =>
   obtain ⟨ab, ao, asp⟩ := a
   go_enter Try.func69, Try.ntmps69
   go_wp2_with (at_builtin; refine Lib.wpList_append_run _ rfl _ _ _ _ rfl _ _ rfl rfl _ _ (hr _) ?_)
   all_goals (go_ret; exact ⟨rfl, rfl⟩)
variable [Link]
theorem sz35 : ∀ w, (Go.sizeOf 35).run Try.prog w = .ok 4 w := fun w => by
 have h : (Try.prog.info? 35).map (·.size) = some 4 := by kernel_rfl
 cases hi : Try.prog.info? 35 with
 | none => rw [hi] at h; cases h
 | some i => rw [hi] at h; simp only [Option.map_some, Option.some.injEq] at h; simp [sizeOf, typeInfo, hi, h]
theorem info35 : ∃ i z, Try.prog.info? 35 = some i ∧ i.size = 4 ∧ i.bytes = 48 ∧ i.zero = some z ∧ z.cells.size = 4 := by
 have h : (Try.prog.info? 35).map (fun i => (i.size, i.bytes, i.zero.map (fun z => z.cells.size))) = some (4, 48, some 4) := by kernel_rfl
 cases hi : Try.prog.info? 35 with
 | none => rw [hi] at h; cases h
 | some i =>
   rw [hi] at h
   simp only [Option.map_some, Option.some.injEq, Prod.mk.injEq, Option.map_eq_some_iff] at h
   obtain ⟨h1, h2, z, h3, h4⟩ := h
   exact ⟨i, z, rfl, h1, h2, h3, h4⟩
set_option maxHeartbeats 4000000 in
set_option maxRecDepth 100000 in
theorem ins_grow (b n c i vb vc : Nat) (cs vs : Array Value) (ty tv : TypeId) (w : World) (hi : i < n) (hnc : n ≤ c) (hroom : c < n + 1) (hbig : (n + 1) * 48 ≤ 140737488355328) (hvb : vb ≠ b)
 (hb : w.heap[b]? = some (.cells cs ty (0, 0))) (hcz : c * 4 ≤ cs.size) (hv : w.heap[vb]? = some (.cells vs tv (0, 0))) (hvz : 4 ≤ vs.size)
 (h1 : (cut cs (i * 4) ((n - i) * 4)).all Value.oneCell' = true) (h2 : (cut vs 0 4).all Value.oneCell' = true) :
 Calls Try.prog 69 #[.slice (some ⟨b, 0, none⟩) n c, .int .i64 i, .slice (some ⟨vb, 0, none⟩) 1 vc] w fun e w' =>
  ∃ G ROW d, n + 1 ≤ G ∧ ROW.size = G * 4 ∧ (∀ k, k < i * 4 → ROW[k]? = cs[k]?) ∧ e = .returned (.slice (some ⟨w.heap.size, 0, none⟩) (n + 1) G) ∧
   w' = { putRow (w.alloc (.cells ROW 35)) w.heap.size (writeAt (writeAt ROW (i * 4) (cut vs 0 4)) ((i + 1) * 4) (cut cs (i * 4) ((n - i) * 4))) 35 with drawn := d } := by
 obtain ⟨i0, z0, hi0, hi1, hi2, hi3, hi4⟩ := info35
 have hz2 : ¬ ((i : Int) = (n : Int)) := by omega
 have hz3 : (c : Int) < (n : Int) + 1 := by omega
 have hlt := (Array.getElem?_eq_some_iff.1 hb).1
 have hltv := (Array.getElem?_eq_some_iff.1 hv).1
 have hkk : (n : Int) + 1 - (i : Int) = ((n + 1 - i : Nat) : Int) := by omega
 have hik : i + (n + 1 - i) = n + 1 := by omega
 have hold : (Builtin.firstCells i0.size i (.slice (some ⟨b, 0, none⟩) i c)).run Try.prog w.drew = .ok (cut cs 0 (i * 4)).toArray w.drew := by
  rw [hi1]
  exact cut_load (w := w.drew) hb (by omega)
 have hrz : ∀ ty, (Builtin.append_ #[22, 3] ty #[.slice (some ⟨b, 0, none⟩) i c, .int .i64 ((n : Int) + 1 - (i : Int))]).run Try.prog w =
  .ok (.slice (some ⟨w.heap.size, 0, none⟩) (n + 1) (grownCap w (n + 1) c 35)) (w.drew.alloc (.cells ((cut cs 0 (i * 4)).toArray ++ Builtin.zeroCells z0.cells (n + 1 - i) ++ Builtin.zeroCells z0.cells (grownCap w (n + 1) c 35 - (n + 1))) 35)) := fun ty => by
  have h := Lib.run_append_grow_zeros w 22 3 ty 35 i0 z0 .i64 .i64 Try.underlying22 Try.underlying3 hi0 hi3 (some ⟨b, 0, none⟩) i c _ hold (n + 1 - i) (by omega) (by omega) (by omega) (by omega) (by rw [hi2]; omega) (by rw [hi2, hik]; exact growslice_fits hroom hbig)
  rw [hik] at h
  rw [hkk]
  exact h
 obtain ⟨G, hG⟩ : ∃ G, G = grownCap w (n + 1) c 35 := ⟨_, rfl⟩
 obtain ⟨ROW, hROW⟩ : ∃ ROW : Array Value, ROW = (cut cs 0 (i * 4)).toArray ++ Builtin.zeroCells z0.cells (n + 1 - i) ++ Builtin.zeroCells z0.cells (G - (n + 1)) := ⟨_, rfl⟩
 rw [← hG] at hrz
 rw [← hROW] at hrz
 have hGn : n + 1 ≤ G := by rw [hG]; exact grownCap_ge w _ _ _
 have hG63 : G ≤ 9223372036854775807 := by
  have := grownCap_le_maxLen w (n + 1) c 35 (by unfold maxLen; omega)
  rw [← hG] at this
  unfold maxLen at this
  omega
 have hc0 : (cut cs 0 (i * 4)).length = i * 4 := cut_len (by omega)
 have hRl : ROW.size = G * 4 := by
  rw [hROW]
  simp only [Array.size_append, List.size_toArray, hc0, Builtin.zeroCells, Array.size_map, Array.size_range, hi4]
  omega
 have hR0 : ∀ k, k < i * 4 → ROW[k]? = cs[k]? := fun k hk => by
  rw [hROW, Array.append_assoc, Array.getElem?_append_left (by simp [hc0]; omega), List.getElem?_toArray, cut_get hk, Nat.zero_add]
 have hbB : b ≠ w.heap.size := by omega
 have hvB : vb ≠ w.heap.size := by omega
 have hW1B : (w.alloc (.cells ROW 35)).heap[w.heap.size]? = some (.cells ROW 35 (0, 0)) := by show (w.heap.push _)[w.heap.size]? = _; simp
 have hW1b : (w.alloc (.cells ROW 35)).heap[b]? = some (.cells cs ty (0, 0)) := by rw [Go.RowKit.Below.heap_alloc _ _ _ hlt]; exact hb
 have hW1v : (w.alloc (.cells ROW 35)).heap[vb]? = some (.cells vs tv (0, 0)) := by rw [Go.RowKit.Below.heap_alloc _ _ _ hltv]; exact hv
 have hWs : w.heap.size < (w.alloc (.cells ROW 35)).heap.size := by simp
 have hcpA : ∀ W : World, W.heap = (w.alloc (.cells ROW 35)).heap → ∀ ty' dc, (Builtin.copy_ #[22, 22] ty' #[.slice (some ⟨w.heap.size, i * 4, none⟩) (n + 1 - i) dc, .slice (some ⟨vb, 0, none⟩) 1 vc]).run Try.prog W = .ok (goInt 1) (putRow W w.heap.size (writeAt ROW (i * 4) (cut vs 0 4)) 35) := fun W hW ty' dc =>
  run_copyB (w := W) (sz := 4) (o := i * 4) (o' := 0) (l := 1) (dl := n + 1 - i) (k := 1) Try.underlying22 sz35 (by rw [hW]; exact hW1B) (by rw [hW]; exact hW1v) (by simp only [Nat.min_def]; split <;> omega) (by omega) (by omega) h2
 have hcpB : ∀ W : World, W.heap = (putRow (w.alloc (.cells ROW 35)) w.heap.size (writeAt ROW (i * 4) (cut vs 0 4)) 35).heap → ∀ ty' dc sc, (Builtin.copy_ #[22, 22] ty' #[.slice (some ⟨w.heap.size, (i + 1) * 4, none⟩) (n + 1 - (i + 1)) dc, .slice (some ⟨b, i * 4, none⟩) (n - i) sc]).run Try.prog W =
  .ok (goInt ((n - i : Nat) : Int)) (putRow W w.heap.size (writeAt (writeAt ROW (i * 4) (cut vs 0 4)) ((i + 1) * 4) (cut cs (i * 4) ((n - i) * 4))) 35) := fun W hW ty' dc sc =>
  run_copyB (w := W) (sz := 4) (o := (i + 1) * 4) (o' := i * 4) (l := n - i) (dl := n + 1 - (i + 1)) (k := n - i) Try.underlying22 sz35 (by rw [hW]; exact putRow_heap_same hWs) (by rw [hW, putRow_heap_other hbB]; exact hW1b) (by simp only [Nat.min_def]; split <;> omega) (by simp; omega) (by omega) h1
 have core : Calls Try.prog 69 #[.slice (some ⟨b, 0, none⟩) n c, .int .i64 i, .slice (some ⟨vb, 0, none⟩) 1 vc] w fun e w' =>
  e = .returned (.slice (some ⟨w.heap.size, 0, none⟩) (n + 1) G) ∧ ∃ d, w' = { putRow (w.alloc (.cells ROW 35)) w.heap.size (writeAt (writeAt ROW (i * 4) (cut vs 0 4)) ((i + 1) * 4) (cut cs (i * 4) ((n - i) * 4))) 35 with drawn := d } := by
  clear hROW hG hold hkk hik hR0 hRl
  have hGi : ¬ (G = i) := by omega
  have hGim : ¬ (G = i + 1) := by omega
  have hci : ¬ (c = i) := by omega
  have hw1 : IntKind.i64.wrap ((i : Int) + 1) = (i : Int) + 1 := by rw [IntKind.wrap_i64]; omega
  have hw2 : IntKind.i64.wrap ((n : Int) + 1) = (n : Int) + 1 := by rw [IntKind.wrap_i64]; omega
  have hw3 : IntKind.i64.wrap ((n : Int) + 1 - (i : Int)) = (n : Int) + 1 - (i : Int) := by rw [IntKind.wrap_i64]; omega
  have hb1 : (0 : Int) ≤ (i : Int) + 1 := by omega
  have hin : i ≤ n := by omega
  have htn : ((i : Int) + 1).toNat = i + 1 := by omega
  have hb3 : (i : Int) ≤ (n : Int) := by omega
  have hE1 : ((w.alloc (.cells ROW 35)).drew).heap = (w.alloc (.cells ROW 35)).heap := rfl
  have hF1 : ((putRow ((w.alloc (.cells ROW 35)).drew) w.heap.size (writeAt ROW (i * 4) (cut vs 0 4)) 35).drew).heap = (putRow (w.alloc (.cells ROW 35)) w.heap.size (writeAt ROW (i * 4) (cut vs 0 4)) 35).heap := rfl
  have mixed : Try.prog.follows .mixedOrders = true := by kernel_rfl
  go_enter Try.func69, Try.ntmps69
  go_wp2_with (first
   | (at_builtin; refine Lib.wpList_append_run _ rfl _ _ _ _ rfl _ _ rfl rfl _ _ (hrz _) ?_)
   | (at_builtin; refine wpList_copy_runI _ rfl _ _ 22 22 rfl _ _ rfl rfl (hcpA _ hE1 _ _) ?_))
  go_region_law_o (refine step_copy_runI rfl _ _ 22 22 rfl (.slice (some ⟨w.heap.size, (i + 1) * 4, none⟩) (n + 1 - (i + 1)) (G - (i + 1))) (.slice (some ⟨b, i * 4, none⟩) (n - i) (c - i)) (by simp [Act.eval, Act.put]) (by simp [Act.eval, Act.put]) (hcpB _ hF1 _ (G - (i + 1)) (c - i)) ?_)
  go_wp2
  go_ret
  refine ⟨rfl, (w.alloc (.cells ROW 35)).drew.drew.drawn, ?_⟩
  rw [show ∀ W : World, ∀ x y, putRow (putRow W w.heap.size x 35).drew w.heap.size y 35 = putRow W.drew w.heap.size y 35 from fun W x y => putRow_twice (w := W.drew)]
  rfl
 exact core.mono fun e w' ⟨h1, d, h2⟩ => ⟨G, ROW, d, hGn, hRl, hR0, h1, h2⟩
set_option maxHeartbeats 4000000 in
set_option maxRecDepth 100000 in
theorem ins_shift (b n c i vb vc : Nat) (cs vs : Array Value) (ty tv : TypeId) (w : World) (hi : i < n) (hroom : n + 1 ≤ c) (hbig : (n + 1) * 48 ≤ 140737488355328) (hvb : vb ≠ b)
 (hb : w.heap[b]? = some (.cells cs ty (0, 0))) (hcz : c * 4 ≤ cs.size) (hv : w.heap[vb]? = some (.cells vs tv (0, 0))) (hvz : 4 ≤ vs.size)
 (h1 : (cut cs (i * 4) ((n - i) * 4)).all Value.oneCell' = true) (h2 : (cut vs 0 4).all Value.oneCell' = true) :
 Calls Try.prog 69 #[.slice (some ⟨b, 0, none⟩) n c, .int .i64 i, .slice (some ⟨vb, 0, none⟩) 1 vc] w fun e w' =>
  e = .returned (.slice (some ⟨b, 0, none⟩) (n + 1) c) ∧ w' = putRow w.drew b (writeAt (writeAt cs ((i + 1) * 4) (cut cs (i * 4) ((n - i) * 4))) (i * 4) (cut vs 0 4)) ty := by
 have hz2 : ¬ ((i : Int) = (n : Int)) := by omega
 have hov : ∀ lb cb, (callFunc 82 #[.slice (some ⟨vb, 0, none⟩) 1 vc, .slice (some ⟨b, (i + 1) * 4, none⟩) lb cb]).run Try.prog w = .ok (.value (.bool false)) w := fun lb cb => by
  rw [run_callFunc_extern Try.func82 (by kernel_rfl) (by kernel_rfl) (by kernel_rfl) (e := Extern.SlicesOverlaps.overlaps #[22, 22] #[4]) (by kernel_rfl),
   Lib.run_overlaps_apart w 22 4 35 Try.underlying22 4 sz35 ⟨vb, 0, none⟩ ⟨b, (i + 1) * 4, none⟩ 1 vc lb cb hvb tv ty vs.size cs.size (by simp [World.shape?, hv]) (by simp [World.shape?, hb]) (by omega) (by simp [World.frozen?, hv]) (by simp [World.frozen?, hv])]
  rfl
 have hbd : w.drew.heap[b]? = some (.cells cs ty (0, 0)) := hb
 have hcp1 : ∀ ty' dc sc, (Builtin.copy_ #[22, 22] ty' #[.slice (some ⟨b, (i + 1) * 4, none⟩) (n + 1 - (i + 1)) dc, .slice (some ⟨b, i * 4, none⟩) (n + 1 - i) sc]).run Try.prog w.drew = .ok (goInt ((n - i : Nat) : Int)) (putRow w.drew b (writeAt cs ((i + 1) * 4) (cut cs (i * 4) ((n - i) * 4))) ty) := fun ty' dc sc =>
  run_copyB (w := w.drew) (sz := 4) (o := (i + 1) * 4) (o' := i * 4) (l := n + 1 - i) (dl := n + 1 - (i + 1)) (k := n - i) Try.underlying22 sz35 hbd hbd (by simp only [Nat.min_def]; split <;> omega) (by omega) (by omega) h1
 have hlt := (Array.getElem?_eq_some_iff.1 hb).1
 have hW1b : (putRow w.drew b (writeAt cs ((i + 1) * 4) (cut cs (i * 4) ((n - i) * 4))) ty).heap[b]? = some (.cells (writeAt cs ((i + 1) * 4) (cut cs (i * 4) ((n - i) * 4))) ty (0, 0)) := putRow_heap_same hlt
 have hW1v : (putRow w.drew b (writeAt cs ((i + 1) * 4) (cut cs (i * 4) ((n - i) * 4))) ty).heap[vb]? = some (.cells vs tv (0, 0)) := by rw [putRow_heap_other hvb]; exact hv
 have hcp2 : ∀ ty' dc, (Builtin.copy_ #[22, 22] ty' #[.slice (some ⟨b, i * 4, none⟩) (n + 1 - i) dc, .slice (some ⟨vb, 0, none⟩) 1 vc]).run Try.prog (putRow w.drew b (writeAt cs ((i + 1) * 4) (cut cs (i * 4) ((n - i) * 4))) ty) = .ok (goInt 1) (putRow w.drew b (writeAt (writeAt cs ((i + 1) * 4) (cut cs (i * 4) ((n - i) * 4))) (i * 4) (cut vs 0 4)) ty) := fun ty' dc => by
  rw [run_copyB (w := (putRow w.drew b (writeAt cs ((i + 1) * 4) (cut cs (i * 4) ((n - i) * 4))) ty)) (sz := 4) (o := i * 4) (o' := 0) (l := 1) (dl := n + 1 - i) (k := 1) Try.underlying22 sz35 hW1b hW1v (by simp only [Nat.min_def]; split <;> omega) (by simp; omega) (by omega) h2, putRow_twice]
  rfl
 have hw1 : IntKind.i64.wrap ((i : Int) + 1) = (i : Int) + 1 := by rw [IntKind.wrap_i64]; omega
 have hw2 : IntKind.i64.wrap ((n : Int) + 1) = (n : Int) + 1 := by rw [IntKind.wrap_i64]; omega
 have hb1 : (0 : Int) ≤ (i : Int) + 1 := by omega
 have hb1' : (0 : Int) ≤ (n : Int) + 1 := by omega
 have hin : i ≤ n := by omega
 have htn : ((i : Int) + 1).toNat = i + 1 := by omega
 have htn' : ((n : Int) + 1).toNat = n + 1 := by omega
 have hb2 : ¬ (c = i + 1) := by omega
 have hb3 : (i : Int) ≤ (n : Int) + 1 := by omega
 have hb4 : ¬ (c = i) := by omega
 have hb5 : ¬ ((c : Int) < (n : Int) + 1) := by omega
 have mixed : Try.prog.follows .mixedOrders = true := by kernel_rfl
 go_enter Try.func69, Try.ntmps69
 go_wp2_with (simp only [hov])
 go_region_law_o (refine step_copy_runI rfl _ _ 22 22 rfl (.slice (some ⟨b, (i + 1) * 4, none⟩) (n + 1 - (i + 1)) (c - (i + 1))) (.slice (some ⟨b, i * 4, none⟩) (n + 1 - i) (c - i)) (by simp [Act.eval, Act.put]) (by simp [Act.eval, Act.put]) (hcp1 _ (c - (i + 1)) (c - i)) ?_)
 go_wp2_with (at_builtin; refine wpList_copy_runI _ rfl _ _ 22 22 rfl _ _ rfl rfl (hcp2 _ _) ?_)
 go_ret
 exact ⟨rfl, rfl⟩
theorem ti35 : ∃ j, ti Try.prog 35 = some j ∧ j.flat = true ∧ j.size = 4 ∧ j.bytes = 48 := by
 have h : (ti Try.prog 35).map (fun i => (i.flat, i.size, i.bytes)) = some (true, 4, 48) := by kernel_rfl
 cases hi : ti Try.prog 35 with
 | none => rw [hi] at h; cases h
 | some i =>
   rw [hi] at h
   simp only [Option.map_some, Option.some.injEq, Prod.mk.injEq] at h
   exact ⟨i, rfl, h.1, h.2.1, h.2.2⟩
set_option maxHeartbeats 4000000 in
set_option maxRecDepth 100000 in
theorem del_one (b n c i : Nat) (cs : Array Value) (ty : TypeId) (w : World) (hi : i < n) (hnc : n ≤ c) (hbig : n * 48 ≤ 140737488355328)
 (hb : w.heap[b]? = some (.cells cs ty (0, 0))) (hcz : c * 4 ≤ cs.size)
 (h1 : (cut cs ((i + 1) * 4) ((n - (i + 1)) * 4)).all Value.oneCell' = true) :
 Calls Try.prog 56 #[.slice (some ⟨b, 0, none⟩) n c, .int .i64 i, .int .i64 ((i : Int) + 1)] w fun e w' =>
  ∃ (zs : List Value) (d : Nat), zs.length = 4 ∧ e = .returned (.slice (some ⟨b, 0, none⟩) (n - 1) c) ∧ w' = { putRow w b (writeAt (writeAt cs (i * 4) (cut cs ((i + 1) * 4) ((n - (i + 1)) * 4))) ((n - 1) * 4) zs) ty with drawn := d } := by
 obtain ⟨j, hj, hjf, hjs, hjb⟩ := ti35
 have hlt := (Array.getElem?_eq_some_iff.1 hb).1
 have hap : ∀ (A : Addr) (sc : Nat), (n - (i + 1) = 0 ∨ A = ⟨b, (i + 1) * 4, none⟩) → ∀ ty', (Builtin.append_ #[22, 22] ty' #[.slice (some ⟨b, 0, none⟩) i c, .slice (some A) (n - (i + 1)) sc]).run Try.prog w.drew =
  .ok (.slice (some ⟨b, 0, none⟩) (n - 1) c) (putRow w.drew b (writeAt cs (i * 4) (cut cs ((i + 1) * 4) ((n - (i + 1)) * 4))) ty) := fun A sc hA ty' => by
  have h := run_appB (w := w.drew) (t := 22) (ty := ty') (o := (i + 1) * 4) (n := i) (dc := c) (l := n - (i + 1)) (c := sc) (A := A) Try.underlying22 hj hb hA (by omega) (by rw [hjs]; omega) (by rw [hjs]; omega) (by rw [hjs]; exact h1)
  rw [hjs, show i + (n - (i + 1)) = n - 1 by omega] at h
  exact h
 obtain ⟨zs, hzl, hcl⟩ := run_clearB (P := Try.prog) (w := putRow w.drew b (writeAt cs (i * 4) (cut cs ((i + 1) * 4) ((n - (i + 1)) * 4))) ty) (t := 22) (ty := 0) (b := b) (o := (n - 1) * 4) (k := 1) (c := c - (n - 1)) Try.underlying22 hj hjf (by omega) (putRow_heap_same hlt) (by simp [hjs]; omega)
 rw [hjs] at hzl
 rw [putRow_twice] at hcl
 have core : Calls Try.prog 56 #[.slice (some ⟨b, 0, none⟩) n c, .int .i64 i, .int .i64 ((i : Int) + 1)] w fun e w' =>
  e = .returned (.slice (some ⟨b, 0, none⟩) (n - 1) c) ∧ w' = { putRow w b (writeAt (writeAt cs (i * 4) (cut cs ((i + 1) * 4) ((n - (i + 1)) * 4))) ((n - 1) * 4) zs) ty with drawn := w.drawn + 1 } := by
  have mixed : Try.prog.follows .mixedOrders = true := by kernel_rfl
  have hin : i ≤ n := by omega
  have hin1 : (i : Int) + 1 ≤ (n : Int) := by omega
  have hne : ¬ ((i : Int) = (i : Int) + 1) := by omega
  have hb1 : (0 : Int) ≤ (i : Int) + 1 := by omega
  have htn : ((i : Int) + 1).toNat = i + 1 := by omega
  have hic : i ≤ c := by omega
  have hjc : i + 1 ≤ c := by omega
  have hcn : ¬ (c = n - 1) := by omega
  have hn1 : n - (n - 1) = 1 := by omega
  have hnm : n - 1 ≤ n := by omega
  have hci : ¬ (c = i) := by omega
  obtain ⟨A, hA, hA'⟩ : ∃ A : Addr, (if c = i + 1 then some (⟨b, 0, none⟩ : Addr) else some ⟨b, (i + 1) * 4, none⟩) = some A ∧ (n - (i + 1) = 0 ∨ A = ⟨b, (i + 1) * 4, none⟩) := by
   by_cases h : c = i + 1
   ·exact ⟨⟨b, 0, none⟩, by simp [h], .inl (by omega)⟩
   ·exact ⟨⟨b, (i + 1) * 4, none⟩, by simp [h], .inr rfl⟩
  have hapA := hap A (c - (i + 1)) hA'
  clear hap hA' hj hjf hjs hjb
  go_enter Try.func56, Try.ntmps56
  go_wp2_with fail
  go_region_law_o (refine step_append_runI rfl _ _ 22 22 rfl (.slice (some ⟨b, 0, none⟩) i c) (.slice (some A) (n - (i + 1)) (c - (i + 1))) (by simp [Act.eval, Act.put]) (by simp [Act.eval, Act.put, hA]) (hapA 22) ?_)
  go_wp2_with (at_builtin; refine wpList_clear_runI _ rfl _ 22 rfl _ rfl hcl ?_)
  go_ret
  exact ⟨rfl, rfl⟩
 exact core.mono fun e w' ⟨h1, h2⟩ => ⟨zs, _, by omega, h1, h2⟩
end Go.Q.S16
end

section
/- slices.Insert and slices.Delete of rows of writes: what the evaluator takes them for, they do. -/
namespace Go.Q.S16
open Go.Proofs Go.RowKit
theorem del_ok : PrimOk Try.prog 56 (delP 4 48) := by
 intro L w X ι σ n lk args us r hp hw hln hrep
 letI := L
 unfold delP at hp
 split at hp
 ·rename_i id len sz' i j
  split at hp
  ·rename_i sz'' xs hrow
   split at hp
   ·rename_i hc
    obtain ⟨rfl, rfl, hlen, hi0, hil, rfl, hlk, hbig⟩ := hc
    simp only [Option.some.injEq] at hp
    subst hp
    obtain ⟨i, rfl⟩ : ∃ k : Nat, i = (k : Int) := ⟨i.toNat, by omega⟩
    simp only [Int.toNat_natCast] at *
    have hlt : i < len := by omega
    obtain ⟨hus, hr⟩ := hrep
    obtain ⟨s, v1, v2, rfl⟩ : ∃ s v1 v2, us = #[s, v1, v2] := by
     have : us.size = 3 := hus
     exact ⟨us[0], us[1], us[2], by apply Array.ext; · simp [this]
                                    ·intro k h1 h2
                                     match k with
                                     | 0 => rfl
                                     | 1 => rfl
                                     | 2 => rfl
                                     | k + 3 => omega⟩
    have r0 := hr 0 _ _ rfl rfl
    have r1 := hr 1 _ _ rfl rfl
    have r2 := hr 2 _ _ rfl rfl
    obtain ⟨cs, ty, u, g1, g2, g3, g4, g5, g6⟩ := row_cells hw hrow (by omega)
    cases r1
    cases r2
    cases r0 with
    | ref _ _ _ _ c o cells ty' fz hid hcl ho hm hz =>
      have hc0 : c ≠ 0 := by omega
      have ho0 : o = 0 := by rcases ho with h | h; exact absurd h hc0; omega
      subst ho0
      rw [g1] at hm
      cases hm
      have hz' : c * 4 ≤ cs.size := by rcases hz with h | h; exact absurd h hc0; simpa using h
      have hk := del_one (ι id) len c i cs ty w hlt hcl (by omega) g1 hz' (cut_all fun k h1 h2 => g6 k (by omega))
      refine hk.mono fun e w' hh => ?_
      obtain ⟨zs, d, hzl, rfl, rfl⟩ := hh
      have hcutl : (cut cs ((i + 1) * 4) ((len - (i + 1)) * 4)).length = (len - (i + 1)) * 4 := cut_len (by omega)
      have hsz1 : (writeAt cs (i * 4) (cut cs ((i + 1) * 4) ((len - (i + 1)) * 4))).size = cs.size := by simp
      have hxl : (xs.take i ++ xs.drop (i + 1)).length = len - 1 := by simp; omega
      have hget : ∀ q, (xs.take i ++ xs.drop (i + 1))[q]? = if q < i then xs[q]? else xs[q + 1]? := fun q => by
       rw [List.getElem?_append]
       have : (xs.take i).length = i := by simp; omega
       rw [this]
       split
       ·rename_i h; rw [List.getElem?_take, if_pos h]
       ·rw [List.getElem?_drop]; congr 1; omega
      obtain ⟨a1, a2⟩ := set_move (lk := lk) (xs' := xs.take i ++ xs.drop (i + 1)) (cs' := writeAt (writeAt cs (i * 4) (cut cs ((i + 1) * 4) ((len - (i + 1)) * 4))) ((len - 1) * 4) zs) hw hrow hlk g1 (by simp)
       (fun q r => if q < i then u q r else u (q + 1) r) (by rw [hxl]; omega)
       (fun x hx => g3 x (by
        rcases List.mem_append.1 hx with h | h
        ·exact List.mem_of_mem_take h
        ·exact List.mem_of_mem_drop h))
       (fun q r hq hr => by
        rw [hxl] at hq
        rw [writeAt_get _ _ _ _ (by rw [hsz1, hzl]; omega), if_neg (by omega), writeAt_get _ _ _ _ (by rw [hcutl]; omega), hcutl]
        by_cases h : q < i
        ·rw [if_neg (by omega), if_pos h]
         exact g4 q r (by omega) hr
        ·rw [if_pos (by omega), if_neg h, cut_get (by omega)]
         have := g4 (q + 1) r (by omega) hr
         rw [← this]
         congr 1
         omega)
       (fun q x r e hx he => by
        rw [hget] at hx
        by_cases h : q < i
        ·rw [if_pos h] at hx; rw [if_pos h]; exact g5 _ _ _ _ hx he
        ·rw [if_neg h] at hx; rw [if_neg h]; exact g5 _ _ _ _ hx he) d
      refine ⟨_, X, setι ι n (ι id), rfl, a1, ?_, a2⟩
      have hb := putRow_heap_same (w := w) (cs := writeAt (writeAt cs (i * 4) (cut cs ((i + 1) * 4) ((len - (i + 1)) * 4))) ((len - 1) * 4) zs) (ty := ty) (Array.getElem?_eq_some_iff.1 g1).1
      have hιn : setι ι n (ι id) n = ι id := by simp [setι]
      have := Rep.ref (w := { putRow w (ι id) (writeAt (writeAt cs (i * 4) (cut cs ((i + 1) * 4) ((len - (i + 1)) * 4))) ((len - 1) * 4) zs) ty with drawn := d }) (X := X) (ι := setι ι n (ι id)) (n := n + 1) n 0 (len - 1) 4 c 0 _ ty (0, 0) (by omega) (by omega) (.inr (by omega)) (by rw [hιn]; exact hb) (.inr (by simp; omega))
      rw [hιn] at this
      exact this
   ·cases hp
  ·cases hp
 ·cases hp
end Go.Q.S16
end

section
/- slices.Insert: what the evaluator takes it for, it does. -/
namespace Go.Q.S16
open Go.Proofs Go.RowKit
theorem app_run [Link] {w : World} {X : Nat → Prop} {ι : Nat → Nat} {σ σ' : Sto} {n n' lk : Nat} {s y v : V} {us uy : Value} (hw : WF w X ι σ n) (hln : lk ≤ n) (hs : Rep w X ι n s us) (hy : Rep w X ι n y uy)
 (h : ev (fun o => match o with | .tmp 0 => s | _ => y) σ n lk (.append 4 48 (.tmp 0) (.tmp 1)) = some (v, σ', n')) :
 ∃ u w', (∀ ty, (Builtin.append_ #[22, 22] ty #[us, uy]).run Try.prog w = .ok u w') ∧ ∃ X' ι', WF w' X' ι' σ' n' ∧ Rep w' X' ι' n' v u ∧ Ext w w' X X' ι ι' σ σ' n n' lk := by
 obtain ⟨j, hj, hjf, hjs, hjb⟩ := ti35
 have g := ev_append (P := Try.prog) (ρ := fun o => match o with | .tmp 0 => us | _ => uy) (ρ' := fun o => match o with | .tmp 0 => s | _ => y) (ty := 0) (t := 22) (t' := 22) (e := 35) (e' := 35) (x := .tmp 0) (y := .tmp 1) (x' := .tmp 0) (y' := .tmp 1)
  hw hln hs hy Try.underlying22 Try.underlying22 hj hjf (by rw [hjs, hjb]; exact h)
 obtain ⟨w', X', ι', u, hr, hrep, hw', he⟩ := g
 refine ⟨u, w', fun ty => ?_, X', ι', hw', hrep, he⟩
 change (Builtin.append_ #[22, 22] 0 #[us, uy]).run Try.prog w = .ok u w'
 simp only [Sem.run_bind] at hr
 cases hq : (Builtin.append_ #[22, 22] 0 #[us, uy]).run Try.prog w with
 | ok a w1 =>
   rw [hq] at hr
   simp at hr
   obtain ⟨rfl, rfl⟩ := hr
   rfl
 | halt h1 h2 => rw [hq] at hr; simp at hr
theorem ins_ok : PrimOk Try.prog 69 (insP 4 48) := by
 intro L w X ι σ n lk args us r hp hw hln hrep
 letI := L
 unfold insP at hp
 split at hp
 ·rename_i s i id2 sz2
  split at hp
  ·rename_i sz3 y hrow2
   split at hp
   ·rename_i hc
    obtain ⟨rfl, rfl, -⟩ := hc
    obtain ⟨hus, hr⟩ := hrep
    obtain ⟨u0, u1, u2, rfl⟩ : ∃ s v1 v2, us = #[s, v1, v2] := by
     have : us.size = 3 := hus
     exact ⟨us[0], us[1], us[2], by apply Array.ext; · simp [this]
                                    ·intro k h1 h2
                                     match k with
                                     | 0 => rfl
                                     | 1 => rfl
                                     | 2 => rfl
                                     | k + 3 => omega⟩
    have r0 := hr 0 _ _ rfl rfl
    have r1 := hr 1 _ _ rfl rfl
    have r2 := hr 2 _ _ rfl rfl
    obtain ⟨vs, tv, uv, k1, k2, k3, k4, k5, k6⟩ := row_cells hw hrow2 (by omega)
    cases r1
    have r2' := r2
    cases r2 with
    | ref _ _ _ _ c2 o2 cells2 ty2' fz2 hid2 hcl2 ho2 hm2 hz2 =>
    have ho20 : o2 = 0 := by rcases ho2 with h | h; omega; omega
    subst ho20
    have hvz : 4 ≤ vs.size := by simpa using k2
    have hel : elems σ 4 (.ref id2 0 1 4) = some [y] := by simp [elems, hrow2]
    split at hp
    ·-- nothing there
     split at hp
     ·rename_i hi
      subst hi
      simp only [Option.some.injEq] at hp
      subst hp
      cases r0
      obtain ⟨u, w', g1, X', ι', g2, g3, g4⟩ := app_run (lk := lk) (s := .nilS) (y := .ref id2 0 1 4) (v := .ref n 0 1 4) (σ' := upd σ n (some (.row 4 [y]))) (n' := n + 1) hw hln .nilS r2' (by
       simp only [ev, hel]
       simp [LIM])
      have hk := ins_end none 0 0 (ι id2) c2 w w' u g1
      refine hk.mono fun e w1 hh => ?_
      obtain ⟨rfl, rfl⟩ := hh
      exact ⟨u, X', ι', rfl, g2, g3, g4⟩
     ·cases hp
    ·rename_i id len sz'
     split at hp
     ·rename_i sz'' xs hrow
      split at hp
      ·rename_i hc
       obtain ⟨rfl, rfl, hlen, hi0, hil, hlk, hne, hbig⟩ := hc
       simp only [Option.some.injEq] at hp
       subst hp
       obtain ⟨i, rfl⟩ : ∃ k : Nat, i = (k : Int) := ⟨i.toNat, by omega⟩
       simp only [Int.toNat_natCast] at *
       by_cases hie : i = len
       ·-- at the end
        subst hie
        have r0' := r0
        cases r0 with
        | ref _ _ _ _ c o cells ty' fz hid hcl ho hm hz =>
        have htk : xs.take i ++ y :: xs.drop i = xs.take i ++ [y] := by rw [hlen, List.drop_length]
        obtain ⟨u, w', g1, X', ι', g2, g3, g4⟩ := app_run (lk := lk) (s := .ref id 0 i 4) (y := .ref id2 0 1 4) (v := .ref n 0 (i + 1) 4) (σ' := upd (upd σ id none) n (some (.row 4 (xs.take i ++ y :: xs.drop i)))) (n' := n + 1) hw hln r0' r2' (by
         simp only [ev, hel, hrow, htk]
         rw [if_pos ⟨trivial, trivial, trivial, by omega, hlk, by simp only [List.length_singleton]; unfold LIM; omega⟩]
         rfl)
        have hk := ins_end (some ⟨ι id, o, none⟩) i c (ι id2) c2 w w' u g1
        refine hk.mono fun e w1 hh => ?_
        obtain ⟨rfl, rfl⟩ := hh
        exact ⟨u, X', ι', rfl, g2, g3, g4⟩
       ·obtain ⟨cs, ty, u, g1, g2, g3, g4, g5, g6⟩ := row_cells hw hrow (by omega)
        cases r0 with
        | ref _ _ _ _ c o cells ty' fz hid hcl ho hm hz =>
        have hc0 : c ≠ 0 := by omega
        have ho0 : o = 0 := by rcases ho with h | h; exact absurd h hc0; omega
        subst ho0
        rw [g1] at hm
        cases hm
        have hz' : c * 4 ≤ cs.size := by rcases hz with h | h; exact absurd h hc0; simpa using h
        have hlt : i < len := by omega
        have hbb : ι id2 ≠ ι id := fun e => hne (hw.inj id2 id (by rw [hrow2]; simp) (by rw [hrow]; simp) e).symm
        have hc1 : (cut cs (i * 4) ((len - i) * 4)).all Value.oneCell' = true := cut_all fun k h1 h2 => g6 k (by omega)
        have hc2 : (cut vs 0 4).all Value.oneCell' = true := cut_all fun k h1 h2 => k6 k (by simp; omega)
        have hcutl : (cut cs (i * 4) ((len - i) * 4)).length = (len - i) * 4 := cut_len (by omega)
        have hcutv : (cut vs 0 4).length = 4 := cut_len (by omega)
        have hxl : (xs.take i ++ y :: xs.drop i).length = len + 1 := by simp; omega
        have hget : ∀ q, (xs.take i ++ y :: xs.drop i)[q]? = if q < i then xs[q]? else if q = i then some y else xs[q - 1]? := fun q => by
         rw [List.getElem?_append]
         have : (xs.take i).length = i := by simp; omega
         rw [this]
         split
         ·rename_i h; rw [List.getElem?_take, if_pos h]
         ·by_cases h : q = i
          ·subst h; simp
          ·rw [if_neg h]
           obtain ⟨p, hp⟩ : ∃ p, q - i = p + 1 := ⟨q - i - 1, by omega⟩
           rw [hp, List.getElem?_cons_succ, List.getElem?_drop]
           congr 1; omega
        have hsz : ∀ x ∈ xs.take i ++ y :: xs.drop i, x.cells.length = 4 ∧ x.cells.all V.one = true := fun x hx => by
         rcases List.mem_append.1 hx with h | h
         ·exact g3 x (List.mem_of_mem_take h)
         ·rcases List.mem_cons.1 h with rfl | h
          ·exact k3 _ (by simp)
          ·exact g3 x (List.mem_of_mem_drop h)
        have hrp : ∀ (q : Nat) (x : V) (r : Nat) (e : V), (xs.take i ++ y :: xs.drop i)[q]? = some x → x.cells[r]? = some e → Rep w X ι n e ((fun q r => if q < i then u q r else if q = i then uv 0 r else u (q - 1) r) q r) := fun q x r e hx he => by
         rw [hget] at hx
         by_cases h : q < i
         ·rw [if_pos h] at hx; simp only [if_pos h]; exact g5 _ _ _ _ hx he
         ·rw [if_neg h] at hx; simp only [if_neg h]
          by_cases h' : q = i
          ·rw [if_pos h'] at hx; simp only [if_pos h']
           cases hx
           exact k5 0 _ _ _ rfl he
          ·rw [if_neg h'] at hx; simp only [if_neg h']; exact g5 _ _ _ _ hx he
        by_cases hroom : len + 1 ≤ c
        ·have hk := ins_shift (ι id) len c i (ι id2) c2 cs vs ty tv w hlt hroom (by omega) hbb g1 hz' k1 hvz hc1 hc2
         refine hk.mono fun e w' hh => ?_
         obtain ⟨rfl, rfl⟩ := hh
         have hsz1 : (writeAt cs ((i + 1) * 4) (cut cs (i * 4) ((len - i) * 4))).size = cs.size := by simp
         obtain ⟨a1, a2⟩ := set_move (lk := lk) (xs' := xs.take i ++ y :: xs.drop i) (cs' := writeAt (writeAt cs ((i + 1) * 4) (cut cs (i * 4) ((len - i) * 4))) (i * 4) (cut vs 0 4)) hw hrow hlk g1 (by simp)
          (fun q r => if q < i then u q r else if q = i then uv 0 r else u (q - 1) r) (by rw [hxl]; omega) hsz
          (fun q r hq hr4 => by
           rw [hxl] at hq
           rw [writeAt_get _ _ _ _ (by rw [hsz1, hcutv]; omega), hcutv]
           by_cases h : q < i
           ·rw [if_neg (by omega), writeAt_get _ _ _ _ (by rw [hcutl]; omega), hcutl, if_neg (by omega)]
            simp only [if_pos h]
            exact g4 q r (by omega) hr4
           ·by_cases h' : q = i
            ·subst h'
             rw [if_pos (by omega), cut_get (by omega)]
             simp only [h, if_false, if_true]
             have := k4 0 r (by simp) hr4
             rw [← this]
             congr 1
             omega
            ·rw [if_neg (by omega), writeAt_get _ _ _ _ (by rw [hcutl]; omega), hcutl, if_pos (by omega), cut_get (by omega)]
             simp only [if_neg h, if_neg h']
             have := g4 (q - 1) r (by omega) hr4
             rw [← this]
             congr 1
             omega)
          hrp w.drew.drawn
         refine ⟨_, X, setι ι n (ι id), rfl, a1, ?_, a2⟩
         have hb := putRow_heap_same (w := w) (cs := writeAt (writeAt cs ((i + 1) * 4) (cut cs (i * 4) ((len - i) * 4))) (i * 4) (cut vs 0 4)) (ty := ty) (Array.getElem?_eq_some_iff.1 g1).1
         have hιn : setι ι n (ι id) n = ι id := by simp [setι]
         have := Rep.ref (w := putRow w.drew (ι id) (writeAt (writeAt cs ((i + 1) * 4) (cut cs (i * 4) ((len - i) * 4))) (i * 4) (cut vs 0 4)) ty) (X := X) (ι := setι ι n (ι id)) (n := n + 1) n 0 (len + 1) 4 c 0 _ ty (0, 0) (by omega) (by omega) (.inr (by omega)) (by rw [hιn]; exact hb) (.inr (by simp; omega))
         rw [hιn] at this
         exact this
        ·have hk := ins_grow (ι id) len c i (ι id2) c2 cs vs ty tv w hlt hcl (by omega) (by omega) hbb g1 hz' k1 hvz hc1 hc2
         refine hk.mono fun e w' hh => ?_
         obtain ⟨G, ROW, d, hG, hRs, hR, rfl, rfl⟩ := hh
         rw [putRow_alloc]
         have hsz1 : (writeAt ROW (i * 4) (cut vs 0 4)).size = ROW.size := by simp
         obtain ⟨a1, a2⟩ := new_drop (lk := lk) (id := id) (xs' := xs.take i ++ y :: xs.drop i) (cs' := writeAt (writeAt ROW (i * 4) (cut vs 0 4)) ((i + 1) * 4) (cut cs (i * 4) ((len - i) * 4))) (ty := 35) hw hln hlk
          (fun q r => if q < i then u q r else if q = i then uv 0 r else u (q - 1) r) (by rw [hxl]; simp; omega) hsz
          (fun q r hq hr4 => by
           rw [hxl] at hq
           rw [writeAt_get _ _ _ _ (by rw [hsz1, hcutl]; omega), hcutl]
           by_cases h : q < i
           ·rw [if_neg (by omega), writeAt_get _ _ _ _ (by rw [hcutv]; omega), hcutv, if_neg (by omega), hR _ (by omega)]
            simp only [if_pos h]
            exact g4 q r (by omega) hr4
           ·by_cases h' : q = i
            ·subst h'
             rw [if_neg (by omega), writeAt_get _ _ _ _ (by rw [hcutv]; omega), hcutv, if_pos (by omega), cut_get (by omega)]
             simp only [h, if_false, if_true]
             have := k4 0 r (by simp) hr4
             rw [← this]
             congr 1
             omega
            ·rw [if_pos (by omega), cut_get (by omega)]
             simp only [if_neg h, if_neg h']
             have := g4 (q - 1) r (by omega) hr4
             rw [← this]
             congr 1
             omega)
          hrp d
         refine ⟨_, _, setι ι n w.heap.size, rfl, a1, ?_, a2⟩
         have hιn : setι ι n w.heap.size n = w.heap.size := by simp [setι]
         have := Rep.ref (w := { w.alloc (.cells (writeAt (writeAt ROW (i * 4) (cut vs 0 4)) ((i + 1) * 4) (cut cs (i * 4) ((len - i) * 4))) 35) with drawn := d }) (X := addX X w.heap.size) (ι := setι ι n w.heap.size) (n := n + 1) n 0 (len + 1) 4 G 0
          (writeAt (writeAt ROW (i * 4) (cut vs 0 4)) ((i + 1) * 4) (cut cs (i * 4) ((len - i) * 4))) 35 (0, 0) (by omega) (by omega) (.inr (by omega)) (by rw [hιn]; show (w.heap.push _)[w.heap.size]? = _; simp) (.inr (by simp; omega))
         rw [hιn] at this
         exact this
      ·cases hp
     ·cases hp
    ·cases hp
   ·cases hp
  ·cases hp
 ·cases hp
end Go.Q.S16
end

section
/- The table is the program's. -/
namespace Go.Q.SV
open Go.Proofs
def Has (f : Nat) (fn : Fn) : Prop := ∃ F, Try.prog.funcs[f]? = some F ∧ cFunc Try.prog (Go.Q.ownB T) F = some fn ∧ (F.name == "runtime.NumGoroutine") = false
theorem h3 : Has 3 g3 := ⟨Try.f3, Try.func3, by kernel_rfl, by kernel_rfl⟩
theorem h8 : Has 8 g8 := ⟨Try.f8, Try.func8, by kernel_rfl, by kernel_rfl⟩
theorem h9 : Has 9 g9 := ⟨Try.f9, Try.func9, by kernel_rfl, by kernel_rfl⟩
theorem h10 : Has 10 g10 := ⟨Try.f10, Try.func10, by kernel_rfl, by kernel_rfl⟩
theorem h11 : Has 11 g11 := ⟨Try.f11, Try.func11, by kernel_rfl, by kernel_rfl⟩
theorem h12 : Has 12 g12 := ⟨Try.f12, Try.func12, by kernel_rfl, by kernel_rfl⟩
theorem h13 : Has 13 g13 := ⟨Try.f13, Try.func13, by kernel_rfl, by kernel_rfl⟩
theorem h15 : Has 15 g15 := ⟨Try.f15, Try.func15, by kernel_rfl, by kernel_rfl⟩
theorem h16 : Has 16 g16 := ⟨Try.f16, Try.func16, by kernel_rfl, by kernel_rfl⟩
theorem h17 : Has 17 g17 := ⟨Try.f17, Try.func17, by kernel_rfl, by kernel_rfl⟩
theorem h21 : Has 21 g21 := ⟨Try.f21, Try.func21, by kernel_rfl, by kernel_rfl⟩
theorem h25 : Has 25 g25 := ⟨Try.f25, Try.func25, by kernel_rfl, by kernel_rfl⟩
theorem h27 : Has 27 g27 := ⟨Try.f27, Try.func27, by kernel_rfl, by kernel_rfl⟩
theorem h30 : Has 30 g30 := ⟨Try.f30, Try.func30, by kernel_rfl, by kernel_rfl⟩
theorem h32 : Has 32 g32 := ⟨Try.f32, Try.func32, by kernel_rfl, by kernel_rfl⟩
theorem h33 : Has 33 g33 := ⟨Try.f33, Try.func33, by kernel_rfl, by kernel_rfl⟩
theorem h34 : Has 34 g34 := ⟨Try.f34, Try.func34, by kernel_rfl, by kernel_rfl⟩
theorem h35 : Has 35 g35 := ⟨Try.f35, Try.func35, by kernel_rfl, by kernel_rfl⟩
theorem h36 : Has 36 g36 := ⟨Try.f36, Try.func36, by kernel_rfl, by kernel_rfl⟩
theorem h37 : Has 37 g37 := ⟨Try.f37, Try.func37, by kernel_rfl, by kernel_rfl⟩
theorem h38 : Has 38 g38 := ⟨Try.f38, Try.func38, by kernel_rfl, by kernel_rfl⟩
theorem h39 : Has 39 g39 := ⟨Try.f39, Try.func39, by kernel_rfl, by kernel_rfl⟩
theorem h40 : Has 40 g40 := ⟨Try.f40, Try.func40, by kernel_rfl, by kernel_rfl⟩
theorem h41 : Has 41 g41 := ⟨Try.f41, Try.func41, by kernel_rfl, by kernel_rfl⟩
theorem h42 : Has 42 g42 := ⟨Try.f42, Try.func42, by kernel_rfl, by kernel_rfl⟩
theorem h43 : Has 43 g43 := ⟨Try.f43, Try.func43, by kernel_rfl, by kernel_rfl⟩
theorem h44 : Has 44 g44 := ⟨Try.f44, Try.func44, by kernel_rfl, by kernel_rfl⟩
theorem h45 : Has 45 g45 := ⟨Try.f45, Try.func45, by kernel_rfl, by kernel_rfl⟩
theorem h46 : Has 46 g46 := ⟨Try.f46, Try.func46, by kernel_rfl, by kernel_rfl⟩
theorem h47 : Has 47 g47 := ⟨Try.f47, Try.func47, by kernel_rfl, by kernel_rfl⟩
theorem h49 : Has 49 g49 := ⟨Try.f49, Try.func49, by kernel_rfl, by kernel_rfl⟩
theorem h52 : Has 52 g52 := ⟨Try.f52, Try.func52, by kernel_rfl, by kernel_rfl⟩
theorem h53 : Has 53 g53 := ⟨Try.f53, Try.func53, by kernel_rfl, by kernel_rfl⟩
theorem h54 : Has 54 g54 := ⟨Try.f54, Try.func54, by kernel_rfl, by kernel_rfl⟩
theorem h55 : Has 55 g55 := ⟨Try.f55, Try.func55, by kernel_rfl, by kernel_rfl⟩
theorem h57 : Has 57 g57 := ⟨Try.f57, Try.func57, by kernel_rfl, by kernel_rfl⟩
theorem h58 : Has 58 g58 := ⟨Try.f58, Try.func58, by kernel_rfl, by kernel_rfl⟩
theorem h59 : Has 59 g59 := ⟨Try.f59, Try.func59, by kernel_rfl, by kernel_rfl⟩
theorem h60 : Has 60 g60 := ⟨Try.f60, Try.func60, by kernel_rfl, by kernel_rfl⟩
theorem h61 : Has 61 g61 := ⟨Try.f61, Try.func61, by kernel_rfl, by kernel_rfl⟩
theorem h62 : Has 62 g62 := ⟨Try.f62, Try.func62, by kernel_rfl, by kernel_rfl⟩
theorem h63 : Has 63 g63 := ⟨Try.f63, Try.func63, by kernel_rfl, by kernel_rfl⟩
theorem h64 : Has 64 g64 := ⟨Try.f64, Try.func64, by kernel_rfl, by kernel_rfl⟩
theorem h65 : Has 65 g65 := ⟨Try.f65, Try.func65, by kernel_rfl, by kernel_rfl⟩
theorem h66 : Has 66 g66 := ⟨Try.f66, Try.func66, by kernel_rfl, by kernel_rfl⟩
theorem h68 : Has 68 g68 := ⟨Try.f68, Try.func68, by kernel_rfl, by kernel_rfl⟩
theorem h70 : Has 70 g70 := ⟨Try.f70, Try.func70, by kernel_rfl, by kernel_rfl⟩
theorem h71 : Has 71 g71 := ⟨Try.f71, Try.func71, by kernel_rfl, by kernel_rfl⟩
theorem h72 : Has 72 g72 := ⟨Try.f72, Try.func72, by kernel_rfl, by kernel_rfl⟩
theorem h73 : Has 73 g73 := ⟨Try.f73, Try.func73, by kernel_rfl, by kernel_rfl⟩
theorem h74 : Has 74 g74 := ⟨Try.f74, Try.func74, by kernel_rfl, by kernel_rfl⟩
theorem h75 : Has 75 g75 := ⟨Try.f75, Try.func75, by kernel_rfl, by kernel_rfl⟩
theorem h76 : Has 76 g76 := ⟨Try.f76, Try.func76, by kernel_rfl, by kernel_rfl⟩
theorem h77 : Has 77 g77 := ⟨Try.f77, Try.func77, by kernel_rfl, by kernel_rfl⟩
theorem h78 : Has 78 g78 := ⟨Try.f78, Try.func78, by kernel_rfl, by kernel_rfl⟩
theorem h79 : Has 79 g79 := ⟨Try.f79, Try.func79, by kernel_rfl, by kernel_rfl⟩
theorem h80 : Has 80 g80 := ⟨Try.f80, Try.func80, by kernel_rfl, by kernel_rfl⟩
theorem h81 : Has 81 g81 := ⟨Try.f81, Try.func81, by kernel_rfl, by kernel_rfl⟩
theorem h84 : Has 84 g84 := ⟨Try.f84, Try.func84, by kernel_rfl, by kernel_rfl⟩
theorem h85 : Has 85 g85 := ⟨Try.f85, Try.func85, by kernel_rfl, by kernel_rfl⟩
theorem h86 : Has 86 g86 := ⟨Try.f86, Try.func86, by kernel_rfl, by kernel_rfl⟩
theorem h87 : Has 87 g87 := ⟨Try.f87, Try.func87, by kernel_rfl, by kernel_rfl⟩
theorem h88 : Has 88 g88 := ⟨Try.f88, Try.func88, by kernel_rfl, by kernel_rfl⟩
theorem h90 : Has 90 g90 := ⟨Try.f90, Try.func90, by kernel_rfl, by kernel_rfl⟩
theorem tabOf1 : ∀ f fn, T.fn f = some fn → ∃ F, Try.prog.funcs[f]? = some F ∧ cFunc Try.prog (Go.Q.ownB T) F = some fn ∧ (F.name == "runtime.NumGoroutine") = false := by
 intro f fn h
 simp only [T] at h
 unfold fnOf at h
 split at h
 all_goals first | (cases h; done) | skip
 all_goals (simp only [Option.some.injEq] at h; subst h)
 ·exact h3
 ·exact h8
 ·exact h9
 ·exact h10
 ·exact h11
 ·exact h12
 ·exact h13
 ·exact h15
 ·exact h16
 ·exact h17
 ·exact h21
 ·exact h25
 ·exact h27
 ·exact h30
 ·exact h32
 ·exact h33
 ·exact h34
 ·exact h35
 ·exact h36
 ·exact h37
 ·exact h38
 ·exact h39
 ·exact h40
 ·exact h41
 ·exact h42
 ·exact h43
 ·exact h44
 ·exact h45
 ·exact h46
 ·exact h47
 ·exact h49
 ·exact h52
 ·exact h53
 ·exact h54
 ·exact h55
 ·exact h57
 ·exact h58
 ·exact h59
 ·exact h60
 ·exact h61
 ·exact h62
 ·exact h63
 ·exact h64
 ·exact h65
 ·exact h66
 ·exact h68
 ·exact h70
 ·exact h71
 ·exact h72
 ·exact h73
 ·exact h74
 ·exact h75
 ·exact h76
 ·exact h77
 ·exact h78
 ·exact h79
 ·exact h80
 ·exact h81
 ·exact h84
 ·exact h85
 ·exact h86
 ·exact h87
 ·exact h88
 ·exact h90
theorem tabOf2 : ∀ f p, T.prim f = some p → Ent Try.prog f ∧ PrimOk Try.prog f p ∧ PrimSays p := by
 intro f p h
 simp only [T] at h
 unfold primOf at h
 split at h
 all_goals first | (cases h; done) | skip
 all_goals (simp only [Option.some.injEq] at h; subst h)
 ·exact ⟨⟨Try.f69, Try.func69, by kernel_rfl, by kernel_rfl⟩, S16.ins_ok, ins_says _ _⟩
 ·exact ⟨⟨Try.f56, Try.func56, by kernel_rfl, by kernel_rfl⟩, S16.del_ok, del_says _ _⟩
theorem tabOf : TabOf Try.prog T := ⟨tabOf1, tabOf2⟩
theorem mixed : Try.prog.follows .mixedOrders = true := by kernel_rfl
end Go.Q.SV
end
