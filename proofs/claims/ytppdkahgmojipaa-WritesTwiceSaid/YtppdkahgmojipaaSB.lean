/- ideal.State; which rows are the same. -/
import Derived.Test.YtppdkahgmojipaaSA
import Derived.Test.YtppdkahgmojipaaProg
import Derived.KernelRfl
set_option linter.unusedVariables false
set_option linter.unusedSimpArgs false
set_option linter.unusedSectionVars false
set_option linter.defProp false
section
namespace Go.Q.SW
open Go.Q Go.Sort
theorem asc_step {R : List Rw} (h : Asc R) (w : Wr) : Asc (ovStep R w) := by
 unfold ovStep
 split
 ·exact asc_delR h _
 ·exact asc_putR h _
theorem asc_fold : ∀ (W : List Wr) {R : List Rw}, Asc R → Asc (W.foldl ovStep R)
 | [], _, h => h
 | w :: W, _, h => asc_fold W (asc_step h w)
def sameR1 (a b : Rw) : Bool := a.id == b.id && lst a.v == lst b.v
def SmR (l : Option (List Rw)) : Prop := (lst l).length < 4611686018427387904 ∧ ∀ r ∈ lst l, Sm r.v
theorem r26 (a b : Rw) (ha : Sm a.v) : res T 26 [rwV a, rwV b] = some (.bool (sameR1 a b)) := by
 refine run_res (run_pure (fn := g26) rfl rfl (by decide) ?_)
 simp only [g26, b26, zO, zN, zM, zL, zG, zP, zQ, zI, zA, zT, zF, zB, zC, zD, zE, zH, zJ, zK]
 have f := f48 a.v b.v (by unfold Sm at ha; omega)
 unfold sameR1
 obtain ⟨i, v⟩ := a
 obtain ⟨j, w⟩ := b
 simp only at *
 cases hk : (i == j)
 ·simp +contextual -implicitDefEqProofs (maxSteps := 2000000) only [↓wP, wS, seval, rwV_eq, hk]
 ·simp +contextual -implicitDefEqProofs (maxSteps := 2000000) only [↓wP, wS, seval, rwV_eq, hk, f]
def f26 (a b : Rw) (ha : Sm a.v) := callE_tr (by decide) (r26 a b ha) (by simp [Tr, Tr_slV, rwV_eq]) rfl
theorem r22 (a b : Option (List Rw)) (ha : SmR a) (hb : SmR b) : res T 22 [slV 2 rwV a, slV 2 rwV b] = some (.bool (sameL sameR1 (lst a) (lst b))) := by
 refine run_res (run_pure (fn := g22) rfl rfl (by decide) ?_)
 simp only [g22, b22, zO, zN, zM, zL, zG, zP, zQ, zI, zA, zT, zF, zB, zC, zD, zE, zH, zJ, zK]
 have hla := ha.1
 have hlb := hb.1
 unfold sameL
 by_cases hlen : (lst a).length = (lst b).length
 ·have hd : (((lst a).length : Int) != ((lst b).length : Int)) = false := by simp [hlen]
  rw [decide_eq_true hlen, Bool.true_and]
  simp +contextual -implicitDefEqProofs (maxSteps := 2000000) only [↓wP, wS, seval, hd]
  refine WC_for (lst a).length 0 (fun (j : Nat) env σ n => env 0 = slV 2 rwV a ∧ env 1 = slV 2 rwV b ∧ smU sameR1 (lst a) (lst b) j = true) (by omega) (by decide) (by decide) (fun _ _ => rfl) (fun _ _ _ => rfl) ?_ ?_ _ _ _ rfl rfl ?_
  ·intro j env σ n hj h1 h2 ⟨g1, g2, g3⟩
   simp only [vl_tmp] at h2
   have hx : (lst a)[j]? = some (lst a)[j] := List.getElem?_eq_getElem hj
   have hy : (lst b)[j]? = some (lst b)[j] := List.getElem?_eq_getElem (by omega)
   have hst := smU_step (p := sameR1) hj (by omega : j < (lst b).length)
   rw [g3, Bool.true_and] at hst
   have hvx := ha.2 _ (List.getElem_mem hj)
   have hno : sameR1 (lst a)[j] (lst b)[j] = false → smU sameR1 (lst a) (lst b) (lst a).length = false := fun hk => smU_no (by rw [hst, hk]) _ (by omega)
   generalize (lst a)[j] = x at *
   generalize (lst b)[j] = y at *
   have f := f26 x y hvx
   rw [rwV_eq, rwV_eq] at f
   cases k5 : sameR1 x y
   ·rw [k5] at f
    have hk := hno k5
    simp +contextual -implicitDefEqProofs (maxSteps := 2000000) only [↓wP, wS, seval, h1, h2, g1, g2, hx, hy, rwV_eq, f]
    rw [hk]
   ·rw [k5] at f
    simp +contextual -implicitDefEqProofs (maxSteps := 2000000) only [↓wP, wS, seval, h1, h2, g1, g2, hx, hy, rwV_eq, f]
    rw [hst, k5]
  ·intro env σ n ⟨g1, g2, g3⟩ h1 h2
   simp +contextual -implicitDefEqProofs (maxSteps := 2000000) only [↓wP, wS, seval]
   rw [g3]
  ·simp +contextual -implicitDefEqProofs (maxSteps := 2000000) only [↓wP, wS, seval]
   rfl
 ·have hd : (((lst a).length : Int) != ((lst b).length : Int)) = true := by simp; omega
  rw [decide_eq_false hlen]
  simp +contextual -implicitDefEqProofs (maxSteps := 2000000) only [↓wP, wS, seval, hd]
def f22 (a b : Option (List Rw)) (ha : SmR a) (hb : SmR b) := callE_tr (by decide) (r22 a b ha hb) (by simp [Tr, Tr_slV]) rfl
theorem same_r {l m : List Rw} (h : l.map (fun r => (r.id, lst r.v)) = m.map (fun r => (r.id, lst r.v))) : sameL sameR1 l m = true := sameL_of (q := fun r : Rw => (r.id, lst r.v)) (fun a b h => by
 simp only [Prod.mk.injEq] at h
 unfold sameR1
 rw [h.1, h.2]; simp) h
end Go.Q.SW
end

section
/- What a transaction sees: plain laws. -/
namespace Go.Q.SW
open Go.Q Go.Sort
def roN (l : List Rw) (n : Nat) (r : Rw) : Bool := okV r.v && (match n with | 0 => true | j + 1 => match l[j]? with | some p => decide (p.id < r.id) | none => true)
def roU (l : List Rw) : Nat → Bool
 | 0 => true
 | n + 1 => roU l n && (match l[n]? with | some r => roN l n r | none => true)
theorem roU_step {l : List Rw} {n : Nat} (hn : n < l.length) : roU l (n + 1) = (roU l n && roN l n l[n]) := by
 show (roU l n && _) = _
 rw [List.getElem?_eq_getElem hn]
theorem roU_no {l : List Rw} {n : Nat} (h : roU l n = false) : ∀ m, n ≤ m → roU l m = false
 | 0, hm => by have : n = 0 := by omega
               subst this; cases h
 | m + 1, hm => by
   by_cases e : n = m + 1
   ·subst e; exact h
   ·show (roU l m && _) = false
    rw [roU_no h m (by omega)]; rfl
theorem roU_pre {l : List Rw} : ∀ {n : Nat}, roU l n = true → ∀ j, j < n → (hj : j < l.length) → roN l j l[j] = true
 | 0, _, j, hj, _ => by omega
 | n + 1, h, j, hj, hl => by
   unfold roU at h
   rw [Bool.and_eq_true] at h
   by_cases e : j = n
   ·subst e
    have := h.2
    rw [List.getElem?_eq_getElem hl] at this
    exact this
   ·exact roU_pre h.1 j (by omega) hl
theorem ro_asc {l : List Rw} (h : roU l l.length = true) : Asc l := by
 unfold Asc
 rw [List.pairwise_iff_getElem]
 have step : ∀ j (hj : j + 1 < l.length), (l[j]).id < (l[j + 1]).id := by
  intro j hj
  have := roU_pre h (j + 1) hj hj
  unfold roN at this
  rw [Bool.and_eq_true] at this
  have h2 := this.2
  simp only [List.getElem?_eq_getElem (show j < l.length by omega), decide_eq_true_eq] at h2
  exact h2
 have key : ∀ k i (hi : i < l.length) (hk : i + k + 1 < l.length), (l[i]).id < (l[i + k + 1]).id := by
  intro k
  induction k with
  | zero => intro i hi hk; exact step i hk
  | succ k ih =>
    intro i hi hk
    have h1 := ih i hi (by omega)
    have h2 := step (i + k + 1) (by omega)
    have e : i + (k + 1) + 1 = i + k + 1 + 1 := by omega
    simp only [e]
    omega
 intro i j hi hj hij
 have h1 := key (j - i - 1) i hi (by omega)
 have e : i + (j - i - 1) + 1 = j := by omega
 simp only [e] at h1
 exact h1
theorem w_pair {l : List Wr} (h : rightW l = true) : l.Pairwise fun a b => bef a b = true := by
 unfold rightW at h
 rw [Bool.and_eq_true] at h
 have h2 := h.2
 rw [List.pairwise_iff_getElem]
 have pre : ∀ n, n ≤ l.length → wU l n = true → ∀ j, j < n → (hj : j < l.length) → okN l j l[j] = true := by
  intro n
  induction n with
  | zero => intro _ _ j hj; omega
  | succ n ih =>
    intro hn hw j hj hjl
    rw [wU_step (by omega : n < l.length), Bool.and_eq_true] at hw
    by_cases e : j = n
    ·subst e; exact hw.2
    ·exact ih (by omega) hw.1 j (by omega) hjl
 have step : ∀ j (hj : j + 1 < l.length), bef l[j] l[j + 1] = true := by
  intro j hj
  have := pre _ (Nat.le_refl _) h2 (j + 1) hj hj
  unfold okN at this
  rw [Bool.and_eq_true] at this
  have h2 := this.2
  simp only [List.getElem?_eq_getElem (show j < l.length by omega)] at h2
  exact h2
 have key : ∀ k i (hi : i < l.length) (hk : i + k + 1 < l.length), bef l[i] l[i + k + 1] = true := by
  intro k
  induction k with
  | zero => intro i hi hk; exact step i hk
  | succ k ih =>
    intro i hi hk
    have h1 := ih i hi (by omega)
    have h2 := step (i + k + 1) (by omega)
    have e : i + (k + 1) + 1 = i + k + 1 + 1 := by omega
    simp only [e]
    exact bef_trans h1 h2
 intro i j hi hj hij
 have h1 := key (j - i - 1) i hi (by omega)
 have e : i + (j - i - 1) + 1 = j := by omega
 simp only [e] at h1
 exact h1
theorem w_ids {l : List Wr} (h : rightW l = true) (c : Int) : (l.filter fun w => w.c == c).Pairwise fun a b => a.id < b.id := by
 have h1 := (w_pair h).filter (fun w => w.c == c)
 refine h1.imp_of_mem (fun {a b} ha hb hab => ?_)
 have e1 := (List.mem_filter.1 ha).2
 have e2 := (List.mem_filter.1 hb).2
 simp only [beq_iff_eq] at e1 e2
 unfold bef at hab
 simp only [Bool.or_eq_true, Bool.and_eq_true, decide_eq_true_eq, beq_iff_eq] at hab
 omega
theorem mem_ov : ∀ {W : List Wr} {R : List Rw}, (W.Pairwise fun a b => a.id ≠ b.id) → ∀ x, x ∈ W.foldl ovStep R ↔ (x ∈ R ∧ ∀ w ∈ W, w.id ≠ x.id) ∨ ∃ w ∈ W, w.g = false ∧ x = ⟨w.id, w.v⟩
 | [], R, _, x => by simp
 | w :: W, R, h, x => by
   obtain ⟨h1, h2⟩ := List.pairwise_cons.1 h
   rw [List.foldl_cons, mem_ov h2 x]
   have hs : x ∈ ovStep R w ↔ (x ∈ R ∧ x.id ≠ w.id) ∨ (w.g = false ∧ x = ⟨w.id, w.v⟩) := by
    unfold ovStep
    cases hg : w.g
    ·simp only [Bool.false_eq_true, if_false, mem_putR, true_and]
     constructor
     ·rintro (h | h)
      ·exact .inr h
      ·exact .inl h
     ·rintro (h | h)
      ·exact .inr h
      ·exact .inl h
    ·simp only [if_true, mem_delR, Bool.true_eq_false, false_and, or_false]
   rw [hs]
   constructor
   ·rintro (⟨⟨h3, h4⟩ | ⟨h3, h4⟩, h5⟩ | ⟨w', h3, h4, h5⟩)
    ·exact .inl ⟨h3, fun w' hw' => by
      rcases List.mem_cons.1 hw' with rfl | hw'
      ·exact fun e => h4 e.symm
      ·exact h5 w' hw'⟩
    ·exact .inr ⟨w, List.mem_cons_self, h3, h4⟩
    ·exact .inr ⟨w', List.mem_cons_of_mem _ h3, h4, h5⟩
   ·rintro (⟨h3, h4⟩ | ⟨w', h3, h4, h5⟩)
    ·exact .inl ⟨.inl ⟨h3, fun e => h4 w List.mem_cons_self e.symm⟩, fun w' hw' => h4 w' (List.mem_cons_of_mem _ hw')⟩
    ·rcases List.mem_cons.1 h3 with rfl | h3
     ·exact .inl ⟨.inr ⟨h4, h5⟩, fun w'' hw'' => by
       rw [h5]
       exact fun e => h1 w'' hw'' e.symm⟩
     ·exact .inr ⟨w', h3, h4, h5⟩
theorem fold_put {rows : List Rw} (h : Asc rows) : rows.foldl putR [] = rows := by
 have key : ∀ (l R : List Rw), Asc (R ++ l) → l.foldl putR R = R ++ l := by
  intro l
  induction l with
  | nil => intro R _; simp
  | cons r l ih =>
    intro R hR
    have h1 : putR R r = R ++ [r] := by
     have hRa : Asc R := (List.pairwise_append.1 hR).1
     have hlt : ∀ x ∈ R, x.id < r.id := fun x hx => (List.pairwise_append.1 hR).2.2 x hx r List.mem_cons_self
     refine asc_uniq (asc_putR hRa r) ?_ (fun x => ?_)
     ·unfold Asc
      rw [List.pairwise_append]
      exact ⟨hRa, List.pairwise_singleton _ _, fun a ha b hb => by rw [List.mem_singleton] at hb; subst hb; exact hlt a ha⟩
     ·rw [mem_putR, List.mem_append, List.mem_singleton]
      constructor
      ·rintro (h | ⟨h, -⟩)
       ·exact .inr h
       ·exact .inl h
      ·rintro (h | h)
       ·exact .inr ⟨h, by have := hlt x h; omega⟩
       ·exact .inl h
    rw [List.foldl_cons, h1, ih (R ++ [r]) (by rw [List.append_assoc]; exact hR), List.append_assoc]
    rfl
 have := key rows [] (by simpa using h)
 simpa using this
def ownB (W : List Wr) (id : Int) : Bool := W.any fun w => w.id == id
def ovD (rows : List Rw) (W : List Wr) : List Rw := (rows.filter fun r => !ownB W r.id) ++ (W.filter fun w => !w.g).map fun w => ⟨w.id, w.v⟩
theorem mem_ovD {rows : List Rw} {W : List Wr} (hr : Asc rows) (hw : W.Pairwise fun a b => a.id < b.id) (x : Rw) : x ∈ ovD rows W ↔ x ∈ ovR rows W := by
 unfold ovR
 rw [fold_put hr, mem_ov (hw.imp fun h => by omega)]
 unfold ovD ownB
 rw [List.mem_append, List.mem_filter, List.mem_map]
 constructor
 ·rintro (⟨h1, h2⟩ | ⟨w, h1, h2⟩)
  ·refine .inl ⟨h1, fun w hw e => ?_⟩
   have : (W.any fun w => w.id == x.id) = true := List.any_eq_true.2 ⟨w, hw, by simp [e]⟩
   rw [this] at h2
   exact absurd h2 (by decide)
  ·obtain ⟨h3, h4⟩ := List.mem_filter.1 h1
   exact .inr ⟨w, h3, by simpa using h4, h2.symm⟩
 ·rintro (⟨h1, h2⟩ | ⟨w, h1, h2, h3⟩)
  ·refine .inl ⟨h1, ?_⟩
   have : (W.any fun w => w.id == x.id) = false := List.any_eq_false.2 (fun w hw => by simp [h2 w hw])
   rw [this]; rfl
  ·exact .inr ⟨w, List.mem_filter.2 ⟨h1, by simp [h2]⟩, h3.symm⟩
theorem nodup_ovD {rows : List Rw} {W : List Wr} (hr : Asc rows) (hw : W.Pairwise fun a b => a.id < b.id) : ((ovD rows W).map (·.id)).Nodup := by
 unfold ovD
 rw [List.map_append]
 refine List.nodup_append.2 ⟨?_, ?_, fun a ha b hb hab => ?_⟩
 ·rw [List.nodup_iff_pairwise_ne, List.pairwise_map]
  exact (hr.filter _).imp fun h => by omega
 ·rw [List.map_map, List.nodup_iff_pairwise_ne, List.pairwise_map]
  exact (hw.filter _).imp fun h => by simp only [Function.comp]; omega
 ·obtain ⟨r, h1, rfl⟩ := List.mem_map.1 ha
  obtain ⟨x, h2, rfl⟩ := List.mem_map.1 hb
  obtain ⟨w, h3, rfl⟩ := List.mem_map.1 h2
  have h4 := (List.mem_filter.1 h1).2
  have : ownB W r.id = true := List.any_eq_true.2 ⟨w, (List.mem_filter.1 h3).1, by simpa using hab.symm⟩
  rw [this] at h4
  exact absurd h4 (by decide)
theorem ovR_asc (rows : List Rw) (W : List Wr) : Asc (ovR rows W) := by
 unfold ovR
 refine asc_fold W ?_
 have key : ∀ (l R : List Rw), Asc R → Asc (l.foldl putR R) := by
  intro l
  induction l with
  | nil => intro R h; exact h
  | cons r l ih => intro R h; exact ih _ (asc_putR h r)
 exact key rows [] List.Pairwise.nil
def ovE (l : List Wr) (c : Int) (rows : List Rw) : Int := if rightW l = false then 260 else if collB c = false then 2 else if roU rows rows.length = false then 170 else 0
def ovL (l : List Wr) (c : Int) (rows : List Rw) : List Rw := if ovE l c rows = 0 then ovR rows (l.filter fun w => w.c == c) else []
end Go.Q.SW
end

section
/- What a transaction sees: writes of a collection, rows told one by one. -/
namespace Go.Q.SW
open Go.Q Go.Sort
def ofW (l : List Wr) (c : Int) : List Wr := if rightW l = true then l.filter fun w => w.c == c else []
theorem r21 (l : Option (List Wr)) (c : Int) (h : FitW (lst l)) : res T 21 [slV 4 wrV l, .int .i64 c] = some (slV 4 wrV (oL (ofW (lst l) c))) := by
 refine run_res (run_pure (fn := g21) rfl rfl (by decide) ?_)
 simp only [g21, b21, zO, zN, zM, zL, zG, zP, zQ, zI, zA, zT, zF, zB, zC, zD, zE, zH, zJ, zK]
 have hl := h.1
 have f25' := f25 l ⟨by omega, fun x hx => by have := h.2 x hx; unfold Sm; omega⟩
 unfold ofW
 cases hr : rightW (lst l)
 ·rw [hr] at f25'
  simp +contextual -implicitDefEqProofs (maxSteps := 2000000) only [↓wP, wS, seval, f25']
  rfl
 rw [hr] at f25'
 rw [if_pos rfl]
 simp +contextual -implicitDefEqProofs (maxSteps := 2000000) only [↓wP, wS, seval, f25']
 refine WC_for (lst l).length 0 (fun (j : Nat) env σ n => env 1 = .int .i64 c ∧ env 11 = slV 4 wrV l ∧ ∃ v, env 5 = v ∧ Pl σ 0 n 4 v (oL ((((lst l).take j).filter fun w => w.c == c).map wrV))) (by omega) (by decide) (by decide) (fun _ _ => rfl) (fun _ _ _ => rfl) ?_ ?_ _ _ _ rfl rfl ?_
 ·intro j env σ n hj h1 h2 ⟨h0, h3, v, h4, h5⟩
  simp only [vl_tmp] at h2
  have hx : (lst l)[j]? = some (lst l)[j] := List.getElem?_eq_getElem hj
  have ht : (lst l).take (j + 1) = (lst l).take j ++ [(lst l)[j]] := (List.take_append_getElem hj).symm
  generalize (lst l)[j] = x at *
  have hlen : ((((lst l).take j).filter fun w => w.c == c).map wrV).length ≤ j := by
   rw [List.length_map]
   have := List.length_filter_le (fun w : Wr => w.c == c) ((lst l).take j)
   rw [List.length_take] at this
   omega
  have hfs : ((lst l).take (j + 1)).filter (fun w => w.c == c) = ((lst l).take j).filter (fun w => w.c == c) ++ if (x.c == c) = true then [x] else [] := by
   rw [ht, List.filter_append]
   congr 1
   simp only [List.filter_cons, List.filter_nil]
  have hsp := spl h5
  have hc := h5.cells
  obtain ⟨σ1, hσ1⟩ : ∃ σ1, σ1 = upd (upd σ n (some (.row 4 [.agg [.int .i64 0, .int .u64 0, .bool false, .nilS]]))) n (some (.row 4 [.agg [.int .i64 x.c, .int .u64 x.id, .bool x.g, slV 1 i32V x.v]])) := ⟨_, rfl⟩
  have so : ∀ i, i < n → σ1 i = σ i := fun i hi => by rw [hσ1, upd_ne (by omega), upd_ne (by omega)]
  have sn : σ1 n = some (.row 4 [.agg [.int .i64 x.c, .int .u64 x.id, .bool x.g, slV 1 i32V x.v]]) := by rw [hσ1, upd_self]
  cases hk : (x.c == c)
  ·rw [hk] at hfs
   simp only [Bool.false_eq_true, if_false, List.append_nil] at hfs
   simp +contextual -implicitDefEqProofs (maxSteps := 2000000) only [↓wP, wS, seval, h1, h2, h0, h3, h4, hx, wrV_eq, ← hσ1, sn, hk]
   rw [hfs]
   exact ⟨_, rfl, h5.loc (fun i a b => so i b) (by omega)⟩
  ·rw [hk] at hfs
   simp only [if_true] at hfs
   simp +contextual -implicitDefEqProofs (maxSteps := 2000000) only [↓wP, wS, seval, h1, h2, h0, h3, h4, hx, wrV_eq, ← hσ1, sn, hk]
   refine stepW_app1 (m := 0) (n0 := n) (σ0 := σ) h5 (fun i g1 g2 => ?_) (by omega) (by omega) (Nat.zero_le _) ?_ (fun _ σ2 g1 g2 => ?_)
   ·rw [upd_ne (by omega), so i g2]
   ·rw [lst_oL]; unfold LIM; omega
   ·rw [lst_oL] at g1 ⊢
    simp +contextual -implicitDefEqProofs (maxSteps := 2000000) only [↓wP, wS, seval, h1, h2, h0, h3, hc, hsp]
    refine ⟨_, rfl, ?_⟩
    rw [hfs, List.map_append]
    have e2 : oL ((((lst l).take j).filter fun w => w.c == c).map wrV ++ [x].map wrV) = some ((((lst l).take j).filter fun w => w.c == c).map wrV ++ [wrV x]) := by
     cases ((lst l).take j).filter fun w => w.c == c <;> rfl
    rw [e2]
    exact g1
 ·intro env σ n ⟨h0, h3, v, h4, h5⟩ h1 h2
  rw [List.take_length] at h5
  have hf := h5.frz (by rw [lst_oL]; exact wr_fz.1) (by rw [lst_oL]; exact wr_fz.2)
  simp +contextual -implicitDefEqProofs (maxSteps := 2000000) only [↓wP, wS, seval, h4]
  rw [hf, slV_oL]
 ·simp +contextual -implicitDefEqProofs (maxSteps := 2000000) only [↓wP, wS, seval]
  simp [oL, Pl]
def f21 (l : Option (List Wr)) (c : Int) (h : FitW (lst l)) := callE_tr (by decide) (r21 l c h) (by simp [Tr, Tr_slV]) (Nw_slV _ _ _ _)
def bV (b : Bool) : V := .bool b
def Own (σ : Sto) (pr pm pw mid : Nat) (o : Option (List Rw)) (w : Option (List Wr)) : Prop :=
 σ pr = some (.row 1 [slV 2 rwV o]) ∧ σ pm = some (.row 1 [.mp mid]) ∧ σ pw = some (.row 1 [slV 4 wrV w]) ∧ ∃ Lm clk, MOk Lm clk ∧ σ mid = some (.map (ens uV bV Lm) clk) ∧ ∀ id, (vw Lm id).getD false = ownB (lst w) id
theorem ownB_snoc (W : List Wr) (w : Wr) (id : Int) : ownB (W ++ [w]) id = (ownB W id || (w.id == id)) := by simp [ownB]
theorem raw39 (w : Option (List Wr)) (o : Option (List Rw)) (σ : Sto) (n : Nat) (hw : (lst w).length ≤ 1000000) {Q : V → Sto → Nat → Prop}
 (hQ : ∀ σ' n', n + 4 ≤ n' → (∀ i, i < n → σ' i = σ i) → Own σ' (n + 1) (n + 3) n (n + 2) o w → Q (.fn 61 [.ptr (n + 1) 1 0 0, .ptr (n + 3) 1 0 0, .ptr n 1 0 0]) σ' n') :
 run T (.raw 39 [slV 4 wrV w, slV 2 rwV o] σ n 0) (memQ Q) := by
 refine run_rawE (fn := g39) rfl rfl ?_
 simp only [g39, b39, zO, zN, zM, zL, zG, zP, zQ, zI, zA, zT, zF, zB, zC, zD, zE, zH, zJ, zK]
 have a1 : (n = n + 1) = False := by simp
 have a2 : (n = n + 2) = False := by simp
 have a3 : (n = n + 3) = False := by simp
 simp +contextual -implicitDefEqProofs (maxSteps := 2000000) only [↓wP, wS, seval, a1, a2, a3]
 refine WC_for (lst w).length 0 (fun (j : Nat) env σ' n' => env 2 = .ptr n 1 0 0 ∧ env 3 = .ptr (n + 1) 1 0 0 ∧ env 5 = .ptr (n + 3) 1 0 0 ∧ env 9 = slV 4 wrV w ∧ n + 4 ≤ n' ∧ (∀ i, i < n → σ' i = σ i) ∧
  σ' (n + 1) = some (.row 1 [slV 2 rwV o]) ∧ σ' (n + 3) = some (.row 1 [.mp (n + 2)]) ∧ σ' n = some (.row 1 [slV 4 wrV w]) ∧ ∃ Lm clk, MOk Lm clk ∧ σ' (n + 2) = some (.map (ens uV bV Lm) clk) ∧ ∀ id, (vw Lm id).getD false = ownB ((lst w).take j) id) (by omega) (by decide) (by decide) (fun _ _ => rfl) (fun _ _ _ => rfl) ?_ ?_ _ _ _ rfl rfl ?_
 ·intro j env σ' n' hj h1 h2 ⟨g1, g2, g3, g4, g5, g6, g7, g8, g9, Lm, clk, m1, m2, m3⟩
  simp only [vl_tmp] at h2
  have hx : (lst w)[j]? = some (lst w)[j] := List.getElem?_eq_getElem hj
  have hos := ownB_snoc ((lst w).take j) (lst w)[j]
  rw [List.take_append_getElem hj] at hos
  generalize (lst w)[j] = x at *
  obtain ⟨σ1, hσ1⟩ : ∃ σ1, σ1 = upd (upd σ' n' (some (.row 4 [.agg [.int .i64 0, .int .u64 0, .bool false, .nilS]]))) n' (some (.row 4 [.agg [.int .i64 x.c, .int .u64 x.id, .bool x.g, slV 1 i32V x.v]])) := ⟨_, rfl⟩
  have so : ∀ i, i < n' → σ1 i = σ' i := fun i hi => by rw [hσ1, upd_ne (by omega), upd_ne (by omega)]
  have sn : σ1 n' = some (.row 4 [.agg [.int .i64 x.c, .int .u64 x.id, .bool x.g, slV 1 i32V x.v]]) := by rw [hσ1, upd_self]
  have s3 : σ1 (n + 3) = some (.row 1 [.mp (n + 2)]) := by rw [so _ (by omega)]; exact g8
  have s2 : σ1 (n + 2) = some (.map (ens uV bV Lm) clk) := by rw [so _ (by omega)]; exact m2
  have pu := mupd_ens (ke := uV) (ve := bV) (lk := 0) keyU m1 s2 (Nat.zero_le _) x.id true (n' + 1)
  simp only [uV, bV] at pu
  simp +contextual -implicitDefEqProofs (maxSteps := 2000000) only [↓wP, wS, seval, h1, h2, g1, g2, g3, g4, hx, wrV_eq, ← hσ1, sn, s3, pu]
  have hx1 : ∀ i, i < n → (if i = n + 2 then some (Ob.map (ens uV bV (mput Lm clk x.id true).1) (mput Lm clk x.id true).2) else σ1 i) = σ i := fun i hi => by
   have : i ≠ n + 2 := by omega
   rw [if_neg this, so i (by omega)]; exact g6 i hi
  have hx2 : σ1 (n + 1) = some (.row 1 [slV 2 rwV o]) := by rw [so _ (by omega)]; exact g7
  have hx3 : σ1 n = some (.row 1 [slV 4 wrV w]) := by rw [so _ (by omega)]; exact g9
  have hx4 : ∀ id, (vw (mput Lm clk x.id true).1 id).getD false = ownB ((lst w).take (j + 1)) id := fun id => by
   rw [vw_mput, hos]
   by_cases e : id = x.id
   ·rw [if_pos e]; simp [e]
   ·rw [if_neg e, m3]
    have : (x.id == id) = false := by simp; exact fun h => e h.symm
    rw [this, Bool.or_false]
  exact ⟨by omega, hx1, hx2, hx3, _, _, mput_ok m1 _ _, rfl, hx4⟩
 ·intro env σ' n' ⟨g1, g2, g3, g4, g5, g6, g7, g8, g9, Lm, clk, m1, m2, m3⟩ h1 h2
  rw [List.take_length] at m3
  simp +contextual -implicitDefEqProofs (maxSteps := 2000000) only [↓wP, wS, seval, g1, g2, g3]
  exact hQ σ' n' g5 g6 ⟨g7, g8, g9, Lm, clk, m1, m2, m3⟩
 ·simp +contextual -implicitDefEqProofs (maxSteps := 2000000) only [↓wP, wS, seval, a1, a2, a3]
  refine ⟨fun i hi => ?_, [], 0, MOk.nil, rfl, fun id => rfl⟩
  have c1 : i ≠ n + 3 := by omega
  have c2 : i ≠ n + 2 := by omega
  have c3 : i ≠ n + 1 := by omega
  have c4 : i ≠ n := by omega
  simp only [c1, c2, c3, c4, if_false]
theorem seen102 (o : Option (List Rw)) (w : Option (List Wr)) (J : List Rw → Sto → Nat → Prop) (lid pr pm pw mid : Nat) (hl : (lst o).length ≤ 1000000) (hlw : (lst w).length ≤ 1000000)
 (hc : ∀ pre σ n, J pre σ n → Own σ pr pm pw mid o w ∧ pr < n ∧ pm < n ∧ pw < n ∧ mid < n)
 (hal : ∀ pre σ n σ', J pre σ n → (∀ i, i ≠ n → σ' i = σ i) → J pre σ' (n + 1))
 (hy : ∀ pre σ n r, pre.length < (ovD (lst o) (lst w)).length → (r ∈ lst o ∨ ∃ x ∈ lst w, r = ⟨x.id, x.v⟩) → J pre σ n → yieldW (run T) lid [rwV r] σ n 0 (fun y σ' n' => y = .bool true ∧ J (pre ++ [r]) σ' n'))
 (σ0 : Sto) (n0 : Nat) (h0 : J [] σ0 n0) : run T (.raw 61 [.yld lid, .ptr pr 1 0 0, .ptr pm 1 0 0, .ptr pw 1 0 0] σ0 n0 0) (memQ fun _ σ' n' => J (ovD (lst o) (lst w)) σ' n') := by
 refine run_rawE (fn := g61) rfl rfl ?_
 obtain ⟨⟨c1, c2, c3, -⟩, -⟩ := hc _ _ _ h0
 simp only [g61, b61, zO, zN, zM, zL, zG, zP, zQ, zI, zA, zT, zF, zB, zC, zD, zE, zH, zJ, zK]
 obtain ⟨A, hA⟩ : ∃ A : Nat → List Rw, A = fun j => ((lst o).take j).filter fun r => !ownB (lst w) r.id := ⟨_, rfl⟩
 obtain ⟨B, hB⟩ : ∃ B : Nat → List Rw, B = fun j => (((lst w).take j).filter fun x => !x.g).map fun x => ⟨x.id, x.v⟩ := ⟨_, rfl⟩
 have hD : ovD (lst o) (lst w) = A (lst o).length ++ B (lst w).length := by rw [hA, hB]; simp only [List.take_length]; rfl
 have hA0 : A 0 = [] := by rw [hA]; rfl
 have hB0 : B 0 = [] := by rw [hB]; rfl
 have hAs : ∀ j (h : j < (lst o).length), A (j + 1) = A j ++ if ownB (lst w) (lst o)[j].id = true then [] else [(lst o)[j]] := fun j h => by
  rw [hA]; simp only []
  rw [← List.take_append_getElem h, List.filter_append]
  congr 1
  cases hq : ownB (lst w) (lst o)[j].id <;> simp [hq]
 have hBs : ∀ j (h : j < (lst w).length), B (j + 1) = B j ++ if (lst w)[j].g = true then [] else [⟨(lst w)[j].id, (lst w)[j].v⟩] := fun j h => by
  rw [hB]; simp only []
  rw [← List.take_append_getElem h, List.filter_append, List.map_append]
  congr 1
  cases hq : (lst w)[j].g <;> simp [hq]
 have hAl : ∀ j, (A j).length ≤ (A (lst o).length).length := fun j => by
  rw [hA]; simp only [List.take_length]
  exact (((List.take_sublist j (lst o)).filter _).length_le)
 have hBl : ∀ j, (B j).length ≤ (B (lst w).length).length := fun j => by
  rw [hB]; simp only [List.take_length, List.length_map]
  exact (((List.take_sublist j (lst w)).filter _).length_le)
 simp +contextual -implicitDefEqProofs (maxSteps := 2000000) only [↓wP, wS, seval, c1]
 refine WC_for (lst o).length 0 (fun (j : Nat) env σ n => env 0 = .yld lid ∧ env 2 = .ptr pm 1 0 0 ∧ env 3 = .ptr pw 1 0 0 ∧ env 9 = slV 2 rwV o ∧ J (A j) σ n) (by omega) (by decide) (by decide) (fun _ _ => rfl) (fun _ _ _ => rfl) ?_ ?_ _ _ _ rfl rfl ?_
 ·intro j env σ n hj h1 h2 ⟨g1, g2, g3, g4, g5⟩
  simp only [vl_tmp] at h2
  have hx : (lst o)[j]? = some (lst o)[j] := List.getElem?_eq_getElem hj
  have hst := hAs j hj
  have hlen := hAl (j + 1)
  have hmem := List.getElem_mem hj
  obtain ⟨x, hxx⟩ : ∃ x, x = (lst o)[j] := ⟨_, rfl⟩
  rw [← hxx] at hx hst hmem
  obtain ⟨σ1, hσ1⟩ : ∃ σ1, σ1 = upd (upd σ n (some (.row 2 [.agg [.int .u64 0, .nilS]]))) n (some (.row 2 [.agg [.int .u64 x.id, slV 1 i32V x.v]])) := ⟨_, rfl⟩
  have sn : σ1 n = some (.row 2 [.agg [.int .u64 x.id, slV 1 i32V x.v]]) := by rw [hσ1, upd_self]
  have hJ1 := hal _ σ n σ1 g5 (fun i hi => by rw [hσ1, upd_ne hi, upd_ne hi])
  obtain ⟨⟨d1, d2, d3, Lm, clk, m1, m2, m3⟩, e1, e2, e3, e4⟩ := hc _ _ _ hJ1
  have q0 : (pm = n) = False := by
   simp only [eq_iff_iff, iff_false]
   intro h; rw [h, sn] at d2; cases d2
  have q1 : (mid = n) = False := by
   simp only [eq_iff_iff, iff_false]
   intro h; rw [h, sn] at m2; cases m2
  have hmg : mgetE false (.one .int) (.bool false) (some (ens uV bV Lm)) (.int .u64 x.id) = some (.bool (ownB (lst w) x.id)) := by
   have := mget_ens (ve := bV) keyU false (.bool false) x.id Lm
   simp only [uV] at this
   rw [this, ← m3 x.id]
   cases vw Lm x.id <;> rfl
  cases hq : ownB (lst w) x.id
  ·rw [hq] at hmg hst
   simp only [Bool.false_eq_true, if_false] at hst
   have hyx := hy (A j) σ1 (n + 1) x (by rw [hD, List.length_append]; rw [hst, List.length_append] at hlen; simp at hlen; omega) (.inl hmem) hJ1
   rw [rwV_eq] at hyx
   simp +contextual -implicitDefEqProofs (maxSteps := 2000000) only [↓wP, wS, seval, h1, h2, g1, g2, g3, g4, hx, rwV_eq, ← hσ1, sn, d2, m2, hmg]
   refine stepW_yld (yieldW_mono (fun _ _ x => x) run_mono (fun y σ' n' ⟨hy1, hy2⟩ => ?_) hyx)
   subst hy1
   simp +contextual -implicitDefEqProofs (maxSteps := 2000000) only [↓wP, wS, seval, h1, h2, g1, g2, g3, g4]
   rw [hst]
   exact hy2
  ·rw [hq] at hmg hst
   simp only [if_true, List.append_nil] at hst
   simp +contextual -implicitDefEqProofs (maxSteps := 2000000) only [↓wP, wS, seval, h1, h2, g1, g2, g3, g4, hx, rwV_eq, ← hσ1, sn, d2, m2, hmg]
   rw [hst]
   exact hJ1
 ·intro env σ n ⟨g1, g2, g3, g4, g5⟩ h1 h2
  obtain ⟨⟨d1, d2, d3, -⟩, -⟩ := hc _ _ _ g5
  simp +contextual -implicitDefEqProofs (maxSteps := 2000000) only [↓wP, wS, seval, g1, g3, d3]
  refine WC_for (lst w).length 0 (fun (j : Nat) env σ n => env 0 = .yld lid ∧ env 27 = slV 4 wrV w ∧ J (A (lst o).length ++ B j) σ n) (by omega) (by decide) (by decide) (fun _ _ => rfl) (fun _ _ _ => rfl) ?_ ?_ _ _ _ rfl rfl ?_
  ·clear g1 g2 g3 g4 g5 h1 h2 d1 d2 d3
   intro j env σ n hj h1 h2 ⟨g1, g4, g5⟩
   simp only [vl_tmp] at h2
   have hx : (lst w)[j]? = some (lst w)[j] := List.getElem?_eq_getElem hj
   have hst := hBs j hj
   have hlen := hBl (j + 1)
   have hmem := List.getElem_mem hj
   obtain ⟨x, hxx⟩ : ∃ x, x = (lst w)[j] := ⟨_, rfl⟩
   rw [← hxx] at hx hst hmem
   obtain ⟨σ1, hσ1⟩ : ∃ σ1, σ1 = upd (upd σ n (some (.row 4 [.agg [.int .i64 0, .int .u64 0, .bool false, .nilS]]))) n (some (.row 4 [.agg [.int .i64 x.c, .int .u64 x.id, .bool x.g, slV 1 i32V x.v]])) := ⟨_, rfl⟩
   have sn : σ1 n = some (.row 4 [.agg [.int .i64 x.c, .int .u64 x.id, .bool x.g, slV 1 i32V x.v]]) := by rw [hσ1, upd_self]
   have hJ1 := hal _ σ n σ1 g5 (fun i hi => by rw [hσ1, upd_ne hi, upd_ne hi])
   cases hq : x.g
   all_goals rw [hq] at hσ1 sn hst
   ·simp only [Bool.false_eq_true, if_false] at hst
    have hyx := hy (A (lst o).length ++ B j) σ1 (n + 1) ⟨x.id, x.v⟩ (by rw [hD, List.length_append, List.length_append]; rw [hst, List.length_append] at hlen; simp at hlen; omega) (.inr ⟨x, hmem, rfl⟩) hJ1
    rw [rwV_eq, List.append_assoc, ← hst] at hyx
    simp +contextual -implicitDefEqProofs (maxSteps := 2000000) only [↓wP, wS, seval, h1, h2, g1, g4, hx, wrV_eq, hq, ← hσ1, sn]
    refine stepW_yld (yieldW_mono (fun _ _ x => x) run_mono (fun y σ' n' ⟨hy1, hy2⟩ => ?_) hyx)
    subst hy1
    simp +contextual -implicitDefEqProofs (maxSteps := 2000000) only [↓wP, wS, seval, h1, h2, g1, g4]
    exact hy2
   ·simp only [if_true, List.append_nil] at hst
    simp +contextual -implicitDefEqProofs (maxSteps := 2000000) only [↓wP, wS, seval, h1, h2, g1, g4, hx, wrV_eq, hq, ← hσ1, sn]
    rw [hst]
    exact hJ1
  ·intro env σ n ⟨g1, g4, g5⟩ h1 h2
   simp +contextual -implicitDefEqProofs (maxSteps := 2000000) only [↓wP, wS, seval]
   rw [hD]
   exact g5
  ·simp +contextual -implicitDefEqProofs (maxSteps := 2000000) only [↓wP, wS, seval, g1]
   rw [hB0, List.append_nil]
   exact g5
 ·rw [hA0]
  exact ⟨rfl, rfl, rfl, rfl, h0⟩
end Go.Q.SW
end

section
/- writes.Overlay. -/
namespace Go.Q.SW
open Go.Q Go.Sort
theorem rw_toArray (D : List Rw) : rw' D.toArray = D.map rwV := by unfold rw'; rfl
theorem ovLoop {env : Nat → V} {σ : Sto} {n d pr pm pw mid : Nat} {Q : Ex → St → Prop} (o : Option (List Rw)) (w : Option (List Wr)) (hl : (lst o).length ≤ 1000) (hlw : (lst w).length ≤ 1000) (hv : ∀ r ∈ lst o, (lst r.v).length ≤ 1000000) (hvw : ∀ x ∈ lst w, (lst x.v).length ≤ 1000000)
 (hg : env 52 = .fn 61 [.ptr pr 1 0 0, .ptr pm 1 0 0, .ptr pw 1 0 0]) (hd : env 11 = .ptr d 1 0 0) (hσ : σ d = some (.row 1 [.nilS])) (hOwn : Own σ pr pm pw mid o w) (hdn : d < n) (l1 : pr < n) (l2 : pm < n) (l3 : pw < n) (l4 : mid < n)
 (n1 : pr ≠ d) (n2 : pm ≠ d) (n3 : pw ≠ d) (n4 : mid ≠ d)
 (hQ : ∀ σ' n' gv, (∀ i, i < n → i ≠ d → σ' i = σ i) → n ≤ n' → σ' d = some (.row 1 [gv]) → Pl σ' n n' 2 gv (oL ((ovD (lst o) (lst w)).map rwV)) → Q .normal ⟨env, σ', n', 0⟩) :
 WC T (.rangeF (.tmp 52) [53] (.reg [⟨some 12, none, .alloc (.agg [.int .u64 0, .nilS])⟩, ⟨none, none, .store 2 (.tmp 12) (.tmp 53)⟩])
  (.block 3 (.regd [⟨[⟨⟨some 54, none, .load false 1 (.tmp 11)⟩, false, false, false, 0, [0], none⟩,
   ⟨⟨some 55, none, .faddr (.tmp 12) 0⟩, true, false, false, 0, [], none⟩, ⟨⟨some 56, none, .load false 1 (.tmp 55)⟩, false, false, false, 0, [], none⟩,
   ⟨⟨some 57, none, .faddr (.tmp 12) 1⟩, true, false, false, 0, [], none⟩, ⟨⟨some 58, none, .load false 1 (.tmp 57)⟩, false, false, false, 0, [], none⟩,
   ⟨⟨some 59, none, .call 40 [.tmp 58]⟩, false, false, false, 0, [], none⟩,
   ⟨⟨some 60, none, .build [.int .u64 0, .nilS] [(0, 1, .tmp 56), (1, 1, .tmp 59)]⟩, true, false, false, 0, [], none⟩,
   ⟨⟨some 61, none, .lit 2 [.tmp 60]⟩, false, false, true, 0, [], none⟩], 1, [⟨some 62, none, .append 2 32 (.tmp 54) (.tmp 61)⟩, ⟨none, none, .store 1 (.tmp 11) (.tmp 62)⟩]⟩]))) env σ n 0 Q := by
 refine WC_rangeF hg (Nat.zero_le _) ?_
 generalize hA : AC.reg [⟨some 12, none, .alloc (.agg [.int .u64 0, .nilS])⟩, ⟨none, none, .store 2 (.tmp 12) (.tmp 53)⟩] = asg
 generalize hB : AC.block 3 _ = bd
 refine run_mono _ _ _ (fun r ho => ?_) (seen102 o w (fun pre σ' n' => n < n' ∧ (∀ i, i < n → i ≠ d → σ' i = σ i) ∧ σ' n = some (.loop env [53] asg bd .ready none) ∧
  ∃ gv, σ' d = some (.row 1 [gv]) ∧ Pl σ' (n + 1) n' 2 gv (oL (pre.map rwV))) n pr pm pw mid (by omega) (by omega) ?_ ?_ ?_ _ _ ?_)
 ·cases r <;> try exact ho.elim
  obtain ⟨e1, e2, e3, gv, e4, e5⟩ := ho
  refine ⟨_, _, _, _, _, _, e3, by decide, ?_⟩
  refine hQ _ _ gv (fun i hi h2 => by rw [upd_ne (by omega)]; exact e2 i hi h2) (by omega) (by rw [upd_ne (by omega)]; exact e4) ?_
  have := e5.loc (σ' := upd _ n none) (fun i hi _ => upd_ne (by omega)) (Nat.le_refl _)
  cases ho' : oL ((ovD (lst o) (lst w)).map rwV) with
  | none => rw [ho'] at this; exact this
  | some xs => rw [ho'] at this; obtain ⟨i, f1, f2, f3, f4⟩ := this; exact ⟨i, f1, f2, by omega, f4⟩
 ·rintro pre σ' n' ⟨e1, e2, -⟩
  obtain ⟨d1, d2, d3, Lm, clk, m1, m2, m3⟩ := hOwn
  exact ⟨⟨by rw [e2 pr l1 n1]; exact d1, by rw [e2 pm l2 n2]; exact d2, by rw [e2 pw l3 n3]; exact d3, Lm, clk, m1, by rw [e2 mid l4 n4]; exact m2, m3⟩, by omega, by omega, by omega, by omega⟩
 ·rintro pre σ' n' σ2 ⟨e1, e2, e3, gv, e4, e5⟩ hσ2
  exact ⟨by omega, fun i hi h2 => by rw [hσ2 i (by omega)]; exact e2 i hi h2, by rw [hσ2 n (by omega)]; exact e3, gv, by rw [hσ2 d (by omega)]; exact e4, e5.loc (fun i _ hi => hσ2 i (by omega)) (by omega)⟩
 ·rintro pre σ' n' r hpre hr ⟨e1, e2, e3, gv, e4, e5⟩
  have hrv : (lst r.v).length ≤ 1000000 := by
   rcases hr with hr | ⟨x, hx, rfl⟩
   ·exact hv r hr
   ·exact hvw x hx
  have hDl : (ovD (lst o) (lst w)).length ≤ 2000 := by
   unfold ovD
   rw [List.length_append, List.length_map]
   have h1 := List.length_filter_le (fun r : Rw => !ownB (lst w) r.id) (lst o)
   have h2 := List.length_filter_le (fun x : Wr => !x.g) (lst w)
   omega
  have f := f40 r.v hrv
  refine yieldW_go e3 rfl (Nat.zero_le _) ?_ (hd := ⟨by rw [← hA]; rfl, by rw [← hB]; rfl⟩)
  obtain ⟨LR, hLR⟩ : ∃ LR, LR = Ob.loop env [53] asg bd .ready none := ⟨_, rfl⟩
  obtain ⟨LB, hLB⟩ : ∃ LB, LB = Ob.loop env [53] asg bd .busy none := ⟨_, rfl⟩
  rw [← hLR] at e3 ⊢
  rw [← hLB]
  subst hA
  subst hB
  have hBp := big_le
  have a1 : (n = n') = False := by simp; omega
  have a2 : (d = n') = False := by simp; omega
  have a3 : (d = n) = False := by simp; omega
  have a4 : (n = d) = False := by simp; omega
  have a5 : (n' = n) = False := by simp; omega
  have a6 : (n' = d) = False := by simp; omega
  have b1 := e5.cells
  rw [rwV_eq]
  obtain ⟨nn, hnn⟩ : ∃ nn, nn = n' + 1 := ⟨_, rfl⟩
  obtain ⟨σ1, hσ1⟩ : ∃ σ1, σ1 = upd (upd (upd σ' n' (some (.row 2 [.agg [.int .u64 0, .nilS]]))) n' (some (.row 2 [.agg [.int .u64 r.id, slV 1 i32V r.v]]))) n (some LB) := ⟨_, rfl⟩
  have s1 : ∀ i, i < n' → i ≠ n → σ1 i = σ' i := fun i hi hi2 => by rw [hσ1, upd_ne hi2, upd_ne (by omega), upd_ne (by omega)]
  have s2 : σ1 n' = some (.row 2 [.agg [.int .u64 r.id, slV 1 i32V r.v]]) := by rw [hσ1, upd_ne (by omega), upd_self]
  have s3 : σ1 n = some LB := by rw [hσ1, upd_self]
  have s4 : σ1 d = some (.row 1 [gv]) := by rw [s1 d (by omega) (by omega)]; exact e4
  obtain ⟨σ2, hσ2⟩ : ∃ σ2, σ2 = merge σ1 (upd σ1 nn (some (.row 2 [.agg [.int .u64 r.id, slV 1 i32V r.v]]))) nn := ⟨_, rfl⟩
  have t1 : ∀ i, i < nn → σ2 i = σ1 i := fun i hi => by rw [hσ2, merge_low _ _ _ hi]
  have t2 : σ2 nn = some (.row 2 [.agg [.int .u64 r.id, slV 1 i32V r.v]]) := by rw [hσ2, merge_in _ _ _ (Nat.le_refl _) (by omega), upd_self]
  have yd : hide σ1 nn nn [0] d = some (.row 1 [gv]) := by rw [hide_low _ _ _ _ (by omega) (Nat.le_refl _)]; exact s4
  have l5 : (nn + 1 ≤ nn + BIG) = True := by simp; omega
  have e5' := e5.loc (σ' := σ2) (n' := n') (fun i hi hi2 => by rw [t1 i (by omega), s1 i hi2 (by omega)]) (Nat.le_refl _)
  have hvn : ∀ i, i ≤ n → ∀ off len s, gv ≠ .ref i off len s := by
   intro i hi off len s e
   subst e
   cases ho' : oL (pre.map rwV) with
   | none => rw [ho'] at e5; cases e5
   | some xs => rw [ho'] at e5; obtain ⟨i, e, -, e2, -⟩ := e5; simp only [V.ref.injEq] at e; omega
  have hsp := spl e5
  simp +contextual -implicitDefEqProofs (maxSteps := 2000000) only [↓wP, wS, seval, bind_cons, bind_nil, hd, e3, e4, a1, a2, a3, a4, a5, a6, b1, f, ← hnn, Nat.mul_zero, Nat.mul_one, ← hσ1, s2, s4, yd, l5, Nat.le_refl, ← hσ2, t2]
  refine stepW_app1 (m := n + 1) (n0 := n') (σ0 := σ2) e5' (fun i _ _ => rfl) (by omega) (by omega) (Nat.zero_le _) ?_ (fun _ σ3 g1 g2 => ?_)
  ·rw [lst_oL, List.length_map]; unfold LIM; omega
  ·rw [lst_oL] at g1 ⊢
   have u1 : ∀ i, i ≤ n → σ3 i = σ1 i := fun i hi => by rw [g2 i (by omega) (hvn i hi), t1 i (by omega)]
   have u2 : σ3 d = some (.row 1 [gv]) := by rw [u1 d (by omega)]; exact s4
   have u3 : σ3 n = some LB := by rw [u1 n (Nat.le_refl _)]; exact s3
   simp +contextual -implicitDefEqProofs (maxSteps := 2000000) only [↓wP, wS, seval, bind_cons, bind_nil, hd, u2, u3, a3, a4, hsp]
   refine ⟨by omega, fun i hi hid => ?_, _, rfl, ?_⟩
   ·rw [if_neg (by omega), u1 i (by omega), s1 i (by omega) (by omega)]
    exact e2 i hi hid
   ·rw [List.map_append]
    have e6 : oL (pre.map rwV ++ [r].map rwV) = some (pre.map rwV ++ [.agg [.int .u64 r.id, slV 1 i32V r.v]]) := by
     cases pre <;> rfl
    rw [e6]
    exact g1.loc (fun i hi _ => by rw [upd_ne (by omega), upd_ne (by omega)]) (by omega)
 ·exact ⟨by omega, fun i hi _ => upd_ne (by omega), upd_self _ _ _, .nilS, by rw [upd_ne (by omega)]; exact hσ, by simp [oL, Pl]⟩
def SmRo (l : List Rw) : Prop := l.length ≤ 100 ∧ ∀ r ∈ l, (lst r.v).length ≤ 1000000
theorem r15 (l : Option (List Wr)) (c : Int) (o : Option (List Rw)) (h : FitW (lst l)) (ho : SmRo (lst o)) : res T 15 [slV 4 wrV l, .int .i64 c, slV 2 rwV o] = some (.tup [slV 2 rwV (oL (ovL (lst l) c (lst o))), .int .i64 (ovE (lst l) c (lst o))]) := by
 refine run_res (run_pure (fn := g15) rfl rfl (by decide) ?_)
 simp only [g15, b15, zO, zN, zM, zL, zG, zP, zQ, zI, zA, zT, zF, zB, zC, zD, zE, zH, zJ, zK]
 have hl := h.1
 have hol := ho.1
 have hsw : SmW l := ⟨by omega, fun x hx => by have := h.2 x hx; unfold Sm; omega⟩
 have f25' := f25 l hsw
 have f37' := f37 c
 have f21' := f21 l c h
 obtain ⟨E, hE⟩ : ∃ E, E = ovE (lst l) c (lst o) := ⟨_, rfl⟩
 obtain ⟨L, hL⟩ : ∃ L, L = ovL (lst l) c (lst o) := ⟨_, rfl⟩
 rw [← hE, ← hL]
 unfold ovL at hL
 rw [← hE] at hL
 unfold ovE at hE
 cases hr : rightW (lst l)
 ·rw [hr] at f25' hE
  rw [if_pos rfl] at hE
  have hL0 : L = [] := by rw [hL, if_neg (by rw [hE]; decide)]
  rw [hE, hL0]
  simp +contextual -implicitDefEqProofs (maxSteps := 2000000) only [↓wP, wS, seval, f25']
  rfl
 rw [hr] at f25' hE
 rw [if_neg (by decide)] at hE
 cases hc : collB c
 ·rw [hc] at f37' hE
  rw [if_pos rfl] at hE
  have hL0 : L = [] := by rw [hL, if_neg (by rw [hE]; decide)]
  rw [hE, hL0]
  simp +contextual -implicitDefEqProofs (maxSteps := 2000000) only [↓wP, wS, seval, f25', f37']
  rfl
 rw [hc] at f37' hE
 rw [if_neg (by decide)] at hE
 obtain ⟨W, hW⟩ : ∃ W, W = (lst l).filter (fun w => w.c == c) := ⟨_, rfl⟩
 have hof : ofW (lst l) c = W := by unfold ofW; rw [hr, if_pos rfl, hW]
 rw [hof] at f21'
 have hWl : W.length ≤ 12 := by
  have h1 := List.length_filter_le (fun w : Wr => w.c == c) (lst l)
  have h2 : (lst l).length ≤ 12 := by
   unfold rightW at hr
   rw [Bool.and_eq_true, decide_eq_true_eq] at hr
   exact hr.1
  rw [hW]; omega
 have hWv : ∀ x ∈ W, (lst x.v).length ≤ 1000000 := fun x hx => by rw [hW] at hx; exact h.2 x (List.mem_filter.1 hx).1
 rw [← hW] at hL
 simp +contextual -implicitDefEqProofs (maxSteps := 2000000) only [↓wP, wS, seval, f25', f37']
 refine WC_for (lst o).length 0 (fun (j : Nat) env σ n => env 0 = slV 4 wrV l ∧ env 1 = .int .i64 c ∧ env 2 = slV 2 rwV o ∧ env 21 = slV 2 rwV o ∧ roU (lst o) j = true) (by omega) (by decide) (by decide) (fun _ _ => rfl) (fun _ _ _ => rfl) ?_ ?_ _ _ _ rfl rfl ?_
 ·intro j env σ n hj h1 h2 ⟨g1, g2, g3, g4, g5⟩
  simp only [vl_tmp] at h2
  have hx : (lst o)[j]? = some (lst o)[j] := List.getElem?_eq_getElem hj
  have hst := roU_step hj
  rw [g5, Bool.true_and] at hst
  have hvx := ho.2 _ (List.getElem_mem hj)
  have hno : roN (lst o) j (lst o)[j] = false → E = 170 ∧ L = [] := fun hk => by
   have : roU (lst o) (lst o).length = false := roU_no (by rw [hst, hk]) _ (by omega : j + 1 ≤ (lst o).length)
   rw [this, if_pos rfl] at hE
   exact ⟨hE, by rw [hL, if_neg (by rw [hE]; decide)]⟩
  obtain ⟨x, hxx⟩ : ∃ x, x = (lst o)[j] := ⟨_, rfl⟩
  rw [← hxx] at hx hst hvx hno
  have f38' := f38 x.v (by omega)
  obtain ⟨σ1, hσ1⟩ : ∃ σ1, σ1 = upd (upd σ n (some (.row 2 [.agg [.int .u64 0, .nilS]]))) n (some (.row 2 [.agg [.int .u64 x.id, slV 1 i32V x.v]])) := ⟨_, rfl⟩
  have sn : σ1 n = some (.row 2 [.agg [.int .u64 x.id, slV 1 i32V x.v]]) := by rw [hσ1, upd_self]
  cases hv : okV x.v
  ·rw [hv] at f38'
   rw [if_neg (by decide)] at f38'
   obtain ⟨e1, e2⟩ := hno (by unfold roN; rw [hv]; rfl)
   have z0 : ((150 : Int) != 0) = true := rfl
   simp +contextual -implicitDefEqProofs (maxSteps := 2000000) only [↓wP, wS, seval, h1, h2, g1, g2, g3, g4, hx, rwV_eq, ← hσ1, sn, f38', z0]
   rw [e1, e2]; rfl
  rw [hv] at f38'
  rw [if_pos rfl] at f38'
  have z0 : ((0 : Int) != 0) = false := rfl
  by_cases hj0 : j = 0
  ·have hz : ¬ ((0 : Int) < (j : Int)) := by omega
   have hk : roN (lst o) j x = true := by subst hj0; unfold roN; rw [hv]; rfl
   simp +contextual -implicitDefEqProofs (maxSteps := 2000000) only [↓wP, wS, seval, h1, h2, g1, g2, g3, g4, hx, rwV_eq, ← hσ1, sn, f38', z0, hz]
   rw [hst, hk]
  ·have hz : (0 : Int) < (j : Int) := by omega
   have wj : IntKind.i64.wrap ((j : Int) - 1) = ((j - 1 : Nat) : Int) := by rw [wrap_i64] <;> omega
   have hx2 : (lst o)[j - 1]? = some (lst o)[j - 1] := List.getElem?_eq_getElem (by omega)
   obtain ⟨p, hp⟩ : ∃ p, p = (lst o)[j - 1] := ⟨_, rfl⟩
   rw [← hp] at hx2
   have hk : roN (lst o) j x = decide (p.id < x.id) := by
    obtain ⟨i, rfl⟩ : ∃ i, j = i + 1 := ⟨j - 1, by omega⟩
    unfold roN
    rw [show i + 1 - 1 = i from rfl] at hx2
    simp [hx2, hv]
   by_cases hlt : p.id < x.id
   ·have hlt' : ¬ (x.id ≤ p.id) := by omega
    rw [decide_eq_true hlt] at hk
    simp +contextual -implicitDefEqProofs (maxSteps := 2000000) only [↓wP, wS, seval, h1, h2, g1, g2, g3, g4, hx, hx2, rwV_eq, ← hσ1, sn, f38', z0, hz, wj, hlt']
    rw [hst, hk]
   ·have hlt' : x.id ≤ p.id := by omega
    rw [decide_eq_false hlt] at hk
    obtain ⟨e1, e2⟩ := hno hk
    simp +contextual -implicitDefEqProofs (maxSteps := 2000000) only [↓wP, wS, seval, h1, h2, g1, g2, g3, g4, hx, hx2, rwV_eq, ← hσ1, sn, f38', z0, hz, wj, hlt']
    rw [e1, e2]; rfl
 ·intro env σ n ⟨g1, g2, g3, g4, g5⟩ h1 h2
  rw [g5, if_neg (by decide)] at hE
  rw [hE, if_pos rfl] at hL
  have hra := ro_asc g5
  have hwi := w_ids hr c
  rw [← hW] at hwi
  obtain ⟨σ1, hσ1⟩ : ∃ σ1, σ1 = upd σ n (some (.row 1 [.nilS])) := ⟨_, rfl⟩
  have s1 : σ1 n = some (.row 1 [.nilS]) := by rw [hσ1, upd_self]
  simp +contextual -implicitDefEqProofs (maxSteps := 2000000) only [↓wP, wS, seval, g1, g2, g3, f21', ← hσ1]
  refine stepW_raw (by decide) (raw39 (oL W) o σ1 (n + 1) (by rw [lst_oL]; omega) (fun σ2 n2 k1 k2 k3 => ?_))
  simp +contextual -implicitDefEqProofs (maxSteps := 2000000) only [↓wP, wS, seval]
  refine ovLoop (d := n) (pr := n + 1 + 1) (pm := n + 1 + 3) (pw := n + 1) (mid := n + 1 + 2) o (oL W) (by omega) (by rw [lst_oL]; omega) ho.2 (by rw [lst_oL]; exact hWv) rfl rfl (by rw [k2 n (by omega)]; exact s1) k3 (by omega) (by omega) (by omega) (by omega) (by omega) (by omega) (by omega) (by omega) (by omega) (fun σ3 n3 gv p1 p2 p3 p4 => ?_)
  rw [lst_oL] at p4
  have hm := mem_ovD hra hwi
  have hnd := nodup_ovD hra hwi
  have hDl : (ovD (lst o) W).length ≤ 112 := by
   unfold ovD
   rw [List.length_append, List.length_map]
   have h1 := List.length_filter_le (fun r : Rw => !ownB W r.id) (lst o)
   have h2 := List.length_filter_le (fun x : Wr => !x.g) W
   omega
  have hLa : Asc L := by rw [hL]; exact ovR_asc _ _
  rw [← hL] at hm
  have hgc := p4.cells
  generalize hDD : ovD (lst o) W = D at *
  cases D with
  | nil =>
    have hR0 : L = [] := by
     cases L with
     | nil => rfl
     | cons r R => have := (hm r).2 List.mem_cons_self; simp at this
    simp only [List.map_nil, oL, Pl] at p4
    rw [p4] at p3
    simp +contextual -implicitDefEqProofs (maxSteps := 2000000) only [↓wP, wS, seval, p3]
    refine stepW_raw (by decide) (raw41n 42 σ3 n3 ?_)
    simp +contextual -implicitDefEqProofs (maxSteps := 2000000) only [↓wP, wS, seval, p3]
    rw [hR0, hE]; rfl
  | cons r0 D0 =>
    obtain ⟨D, hD⟩ : ∃ D, D = r0 :: D0 := ⟨_, rfl⟩
    rw [← hD] at p4 hm hnd hDl
    have hoD : oL (D.map rwV) = some (D.map rwV) := by rw [hD]; rfl
    rw [hoD] at p4
    obtain ⟨i, rfl, q1, q2, q3⟩ := p4
    rw [List.length_map] at p3
    have hsz : D.toArray.size = D.length := by simp
    simp +contextual -implicitDefEqProofs (maxSteps := 2000000) only [↓wP, wS, seval, p3]
    refine stepW_raw (by decide) ?_
    have hr := raw41 42 cmp42 D.toArray i n3 σ3 (by omega) q3 (by rw [rw_toArray]; exact q1) (Q := fun v σ' n' => ∃ d', σ' i = some (.row 2 (rw' d')) ∧ d'.size = D.length ∧ d'.toList = L ∧ σ' n = σ3 n) (fun σ' d' n' r1 r2 r3 r4 r5 => by
     obtain ⟨s1, s2⟩ := sorted_asc r4 r5 (by simpa using hnd)
     refine ⟨d', r2, by rw [r4.1, hsz], asc_uniq s1 hLa (fun x => ?_), r3 n (by omega) (by omega)⟩
     rw [s2, ← hm])
    rw [hsz] at hr
    refine run_mono _ _ _ (fun o ho => ?_) hr
    cases o <;> try exact ho.elim
    obtain ⟨d', r1, r2, r3, r4⟩ := ho
    rw [p3] at r4
    have hf := frz_row r2 r1 8
    have hrw : rw' d' = L.map rwV := by unfold rw'; rw [r3]
    rw [hrw] at hf
    have hRne : oL L = some L := by
     cases L with
     | nil => have := (hm r0).1 (by rw [hD]; exact List.mem_cons_self); simp at this
     | cons r R => rfl
    show WR T _ _ _ _ _ _
    simp +contextual -implicitDefEqProofs (maxSteps := 2000000) only [↓wP, wS, seval, r4, hf]
    rw [hRne, hE]; rfl
 ·exact ⟨rfl, rfl, rfl, rfl, rfl⟩
def f15 (l : Option (List Wr)) (c : Int) (o : Option (List Rw)) (h : FitW (lst l)) (ho : SmRo (lst o)) := callE_tr (by decide) (r15 l c o h ho) (by simp [Tr, Tr_slV]) (by simp [Nw, Nw_slV])
end Go.Q.SW
end

section
/- What a transaction sees; the document's answers. -/
namespace Go.Q.SW
open Go.Q Go.Sort
end Go.Q.SW
end

section
/- Writes are looked for by halves. -/
namespace Go.Q.SW
open Go.Q Go.Sort
theorem b_shrU (m k : Nat) (hk : k < 64) : binV .shr (.int .u64 (m : Int)) (.int .u64 (k : Int)) = some (.int .u64 ((m / 2 ^ k : Nat) : Int)) := by
 have h0 : ¬ ((k : Int) < 0) := by omega
 have hm : min ((k : Int).toNat) IntKind.u64.bits = k := by
  show min (k : Int).toNat 64 = k
  omega
 have hf : (m : Int).fdiv (2 ^ k) = ((m / 2 ^ k : Nat) : Int) := by
  rw [Int.fdiv_eq_ediv_of_nonneg _ (by exact_mod_cast Nat.zero_le _)]
  norm_cast
 simp only [binV, pureV, Go.binOp, Op.shift, h0, if_false, hm, hf]
 rfl
def bsF (l : List Wr) (k : Wr) : Nat → Nat → Nat → Nat
 | 0, i, _ => i
 | f + 1, i, j => if i < j then (match l[(i + j) / 2]? with
  | some x => if bef x k = true then bsF l k f ((i + j) / 2 + 1) j else bsF l k f i ((i + j) / 2)
  | none => i) else i
def bsP (l : List Wr) (k : Wr) : Nat := bsF l k l.length 0 l.length
def bsB (l : List Wr) (k : Wr) : Bool := match l[bsP l k]? with
 | some x => cmpW x k == 0
 | none => false
theorem bsF_le (l : List Wr) (k : Wr) : ∀ (f i j : Nat), i ≤ j → bsF l k f i j ≤ j ∧ i ≤ bsF l k f i j
 | 0, i, j, h => ⟨h, Nat.le_refl _⟩
 | f + 1, i, j, h => by
   simp only [bsF]
   split
   ·split
    ·split
     ·have := bsF_le l k f ((i + j) / 2 + 1) j (by omega); omega
     ·have := bsF_le l k f i ((i + j) / 2) (by omega); omega
    ·omega
   ·omega
theorem bsP_le (l : List Wr) (k : Wr) : bsP l k ≤ l.length := (bsF_le l k _ 0 _ (Nat.zero_le _)).1
theorem bsF_end (l : List Wr) (k : Wr) (f i : Nat) : bsF l k f i i = i := by cases f <;> simp [bsF]
theorem r49 (o : Option (List Wr)) (k : Wr) (hl : (lst o).length ≤ 1000000) : res T 49 [slV 4 wrV o, wrV k, .fn 47 []] = some (.tup [.int .i64 (bsP (lst o) k : Int), .bool (bsB (lst o) k)]) := by
 refine run_res (run_pure (fn := g49) rfl rfl (by decide) ?_)
 simp only [g49, b49, zO, zN, zM, zL, zG, zP, zQ, zI, zA, zT, zF, zB, zC, zD, zE, zH, zJ, zK]
 have hP := bsP_le (lst o) k
 obtain ⟨P, hP'⟩ : ∃ P, P = bsP (lst o) k := ⟨_, rfl⟩
 have hB : bsB (lst o) k = (match (lst o)[P]? with | some x => cmpW x k == 0 | none => false) := by rw [hP']; rfl
 rw [hB, ← hP']
 rw [← hP'] at hP
 have h0 : bsF (lst o) k (lst o).length 0 (lst o).length = P := hP'.symm
 clear hP' hB
 simp +contextual -implicitDefEqProofs (maxSteps := 2000000) only [↓wP, wS, seval, wrV_eq]
 refine WC_loopE 0 0 (fun (a : Nat × Nat) env σ n => env 0 = slV 4 wrV o ∧ env 2 = .fn 47 [] ∧ env 4 = .ptr 0 4 0 0 ∧ env 8 = .int .i64 ((lst o).length : Int) ∧ env 9 = .int .i64 (a.1 : Int) ∧ env 10 = .int .i64 (a.2 : Int) ∧ 1 ≤ n ∧ σ 0 = some (.row 4 [wrV k]) ∧
  a.1 ≤ a.2 ∧ a.2 ≤ (lst o).length ∧ ∃ f, a.2 - a.1 ≤ f ∧ bsF (lst o) k f a.1 a.2 = P) (fun a => a.2 - a.1)
  (fun env σ n => env 0 = slV 4 wrV o ∧ env 2 = .fn 47 [] ∧ env 4 = .ptr 0 4 0 0 ∧ env 8 = .int .i64 ((lst o).length : Int) ∧ env 9 = .int .i64 (P : Int) ∧ 1 ≤ n ∧ σ 0 = some (.row 4 [wrV k])) ?_ ?_ (0, (lst o).length) _ _ _ ?_
 ·intro ⟨i, j⟩ env σ n ⟨e0, e2, e4, e8, e9, e10, hn, s0, hij, hjl, f, hf, hP⟩
  simp only at e9 e10 hij hjl hf hP ⊢
  by_cases hlt : i < j
  ·have hd : decide ((i : Int) < (j : Int)) = true := decide_eq_true (by omega)
   have hw1 : IntKind.i64.wrap ((i : Int) + (j : Int)) = ((i + j : Nat) : Int) := by rw [wrap_i64] <;> omega
   have hw2 : IntKind.u64.wrap ((i + j : Nat) : Int) = ((i + j : Nat) : Int) := by rw [wrap_u64] <;> omega
   have hsh : binV .shr (.int .u64 ((i + j : Nat) : Int)) (.int .u64 1) = some (.int .u64 (((i + j) / 2 ^ 1 : Nat) : Int)) := b_shrU (i + j) 1 (by decide)
   rw [Nat.pow_one] at hsh
   have hw3 : IntKind.i64.wrap (((i + j) / 2 : Nat) : Int) = (((i + j) / 2 : Nat) : Int) := by rw [wrap_i64] <;> omega
   have hw4 : IntKind.i64.wrap ((((i + j) / 2 : Nat) : Int) + 1) = (((i + j) / 2 + 1 : Nat) : Int) := by rw [wrap_i64] <;> omega
   obtain ⟨h, hh⟩ : ∃ h, h = (i + j) / 2 := ⟨_, rfl⟩
   rw [← hh] at hsh hw3 hw4
   have hhl : h < (lst o).length := by omega
   have hx : (lst o)[h]? = some (lst o)[h] := List.getElem?_eq_getElem hhl
   have c := f47 (lst o)[h] k
   have hlt0 := cmpW_lt (lst o)[h] k
   obtain ⟨f', rfl⟩ : ∃ f', f = f' + 1 := ⟨f - 1, by omega⟩
   simp only [bsF, hlt, if_true, ← hh, hx] at hP
   generalize (lst o)[h] = x at *
   have y0 : ∀ hid, hide σ n n hid 0 = σ 0 := fun hid => hide_low _ _ _ _ (by omega) (Nat.le_refl _)
   have s0' := s0
   rw [wrV_eq] at s0'
   rw [wrV_eq, wrV_eq] at c
   cases hb : bef x k
   ·rw [hb] at hlt0 hP
    rw [if_neg (by simp)] at hP
    simp +contextual -implicitDefEqProofs (maxSteps := 2000000) only [↓wP, wS, seval, exQ_exit, e0, e2, e4, e8, e9, e10, hd, hw1, hw2, hsh, hw3, hx, wrV_eq, y0, s0', c, hlt0]
    exact ⟨(i, h), by simp only; omega, rfl, rfl, hn, by simp only; omega, by simp only; omega, f', by simp only; omega, hP⟩
   ·rw [hb] at hlt0 hP
    rw [if_pos rfl] at hP
    simp +contextual -implicitDefEqProofs (maxSteps := 2000000) only [↓wP, wS, seval, exQ_exit, e0, e2, e4, e8, e9, e10, hd, hw1, hw2, hsh, hw3, hw4, hx, wrV_eq, y0, s0', c, hlt0]
    exact ⟨(h + 1, j), by simp only; omega, rfl, rfl, hn, by simp only; omega, by simp only; omega, f', by simp only; omega, hP⟩
  ·have hd : decide ((i : Int) < (j : Int)) = false := decide_eq_false (by omega)
   have : i = j := by omega
   subst this
   rw [bsF_end] at hP
   subst hP
   simp +contextual -implicitDefEqProofs (maxSteps := 2000000) only [↓wP, wS, seval, exQ_exit, e0, e2, e4, e8, e9, e10, hd, wrV_eq]
   exact ⟨hn, by rw [s0, wrV_eq]⟩
 ·intro env σ n ⟨e0, e2, e4, e8, e9, hn, s0⟩
  have y0 : ∀ hid, hide σ n n hid 0 = σ 0 := fun hid => hide_low _ _ _ _ (by omega) (Nat.le_refl _)
  have s0' := s0
  rw [wrV_eq] at s0'
  by_cases hlt : P < (lst o).length
  ·have hd : decide ((P : Int) < ((lst o).length : Int)) = true := decide_eq_true (by omega)
   have hx : (lst o)[P]? = some (lst o)[P] := List.getElem?_eq_getElem hlt
   have c := f47 (lst o)[P] k
   rw [hx]
   generalize (lst o)[P] = x at *
   rw [wrV_eq, wrV_eq] at c
   simp +contextual -implicitDefEqProofs (maxSteps := 2000000) only [↓wP, wS, seval, e0, e2, e4, e8, e9, hd, hx, wrV_eq, y0, s0', c]
  ·have hd : decide ((P : Int) < ((lst o).length : Int)) = false := decide_eq_false (by omega)
   have hx : (lst o)[P]? = none := List.getElem?_eq_none (by omega)
   rw [hx]
   simp +contextual -implicitDefEqProofs (maxSteps := 2000000) only [↓wP, wS, seval, e0, e2, e4, e8, e9, hd, wrV_eq]
 ·refine ⟨rfl, rfl, rfl, rfl, rfl, rfl, by omega, rfl, Nat.zero_le _, Nat.le_refl _, (lst o).length, by simp, h0⟩
def f49 (o : Option (List Wr)) (k : Wr) (hl : (lst o).length ≤ 1000000) := callE_tr (by decide) (r49 o k hl) (by simp [Tr, Tr_slV]) rfl
end Go.Q.SW
end

section
/- What the layer tells of writes. -/
namespace Go.Q.SW
open Go.Q Go.Sort
def findE (l : List Wr) (c id : Int) : Option Wr := if rightW l = true then l.find? fun x => x.c == c && x.id == id else none
end Go.Q.SW
end

section
/- The layer does something. -/
namespace Go.Q.SW
open Go.Q
def isTrue' : Option Out → Bool
 | some (.val (.bool true)) => true
 | _ => false
theorem isTrue_eq {o : Option Out} (h : isTrue' o = true) : o = some (.val (.bool true)) := by
 unfold isTrue' at h
 split at h
 ·rfl
 ·cases h
theorem r8 : res T 8 [] = some (.bool true) := by
 have h : isTrue' (exJob T 150 (.pure 8 [])) = true := by decide +kernel
 exact run_res (exJob_sound 150 _ _ (isTrue_eq h))
theorem f8 (fs : Bool) (σ : Sto) (n lk : Nat) : callE T fs 8 [] σ n lk = some (.bool true, σ, n) := callE_tr (by decide) r8 rfl rfl fs σ n lk
end Go.Q.SW
end

section
/- WritesTell. -/
namespace Go.Q.SW
open Go.Q Go.Sort
theorem cutWs_len (l : Option (List Wr)) : (lst (cutWs l)).length ≤ 13 := by unfold cutWs; rw [lst_oL, List.length_map, List.length_take]; omega
theorem cutWs_v (l : Option (List Wr)) : ∀ w ∈ lst (cutWs l), (lst w.v).length ≤ 5 := by
 intro w hw
 unfold cutWs at hw
 rw [lst_oL] at hw
 obtain ⟨x, -, rfl⟩ := List.mem_map.1 hw
 show ((lst x.v).take 5).length ≤ 5
 rw [List.length_take]; omega
end Go.Q.SW
end

section
/- The arguments of seat 16's statements, as trees. -/
set_option maxRecDepth 20000
namespace Go.Q.SW
open Go.Q Go.Proofs
def eI32 : Enc Try.prog 21 Int := Enc.int .i32 Try.underlying21
def eInt : Enc Try.prog 3 Int := Enc.int .i64 Try.underlying3
def eU64 : Enc Try.prog 26 Int := Enc.int .u64 Try.underlying26
def eBool : Enc Try.prog 4 Bool := Enc.bool Try.underlying4
def eVec : Enc Try.prog 27 (Option (List Int)) := Enc.slice eI32 Try.underlying27 1 (by kernel_rfl) (by decide) 4 (by kernel_rfl)
theorem okVec {o : Option (List Int)} (h : eVec.ok o) : (lst o).length < 4611686018427387904 := by
 cases o with
 | none => simp [lst]
 | some l =>
   obtain ⟨h1, h2, h3⟩ := h l rfl
   rw [reach_eq] at h2
   rw [lst_some]
   omega
def eWr : Enc Try.prog 35 Wr := Enc.map
 (Enc.struct (EncF.cons (off := 0) (sz := 1) eInt rfl (by kernel_rfl) (EncF.cons (sz := 1) eU64 rfl (by kernel_rfl) (EncF.cons (sz := 1) eBool rfl (by kernel_rfl) (EncF.cons (sz := 1) eVec rfl (by kernel_rfl) EncF.nil)))) Try.underlying35 (by kernel_rfl))
 (fun x => ⟨x.1, x.2.1, x.2.2.1, x.2.2.2.1⟩) wrV (fun r => Sm r.v) (fun a _ => by obtain ⟨a, b, c, d, u⟩ := a; cases d <;> rfl) (fun a h => by have := okVec h.2.2.2.1; unfold Sm; dsimp only at this ⊢; omega)
def eWrs : Enc Try.prog 22 (Option (List Wr)) := Enc.slice eWr Try.underlying22 4 (by kernel_rfl) (by decide) 48 (by kernel_rfl)
theorem okWrs {o : Option (List Wr)} (h : eWrs.ok o) : SmW o := by
 cases o with
 | none => exact ⟨by simp [lst], by simp [lst]⟩
 | some l =>
   obtain ⟨h1, h2, h3⟩ := h l rfl
   rw [reach_eq] at h2
   exact ⟨by rw [lst_some]; omega, fun r hr => h3 r hr⟩
end Go.Q.SW
end

section
/- Rows, as trees. -/
set_option maxRecDepth 20000
namespace Go.Q.SW
open Go.Q Go.Proofs
def eRo : Enc Try.prog 48 Rw := Enc.map
 (Enc.struct (EncF.cons (off := 0) (sz := 1) eU64 rfl (by kernel_rfl) (EncF.cons (sz := 1) eVec rfl (by kernel_rfl) EncF.nil)) Try.underlying48 (by kernel_rfl))
 (fun x => ⟨x.1, x.2.1⟩) rwV (fun r => Sm r.v) (fun a _ => by obtain ⟨a, d, u⟩ := a; cases d <;> rfl) (fun a h => by have := okVec h.2.1; unfold Sm; dsimp only at this ⊢; omega)
def eRos : Enc Try.prog 37 (Option (List Rw)) := Enc.slice eRo Try.underlying37 2 (by kernel_rfl) (by decide) 32 (by kernel_rfl)
theorem okRos {o : Option (List Rw)} (h : eRos.ok o) : SmR o := by
 cases o with
 | none => exact ⟨by simp [lst], by simp [lst]⟩
 | some l =>
   obtain ⟨h1, h2, h3⟩ := h l rfl
   rw [reach_eq] at h2
   exact ⟨by rw [lst_some]; omega, fun r hr => h3 r hr⟩
end Go.Q.SW
end

section
/- Some rows; laws of overlaying twice. -/
namespace Go.Q.SW
open Go.Q Go.Sort
def cutR (r : Rw) : Rw := ⟨r.id, cut r.v⟩
def cutRs (l : Option (List Rw)) : Option (List Rw) := oL (((lst l).take 40).map cutR)
theorem cutRs_len (l : Option (List Rw)) : (lst (cutRs l)).length ≤ 40 := by unfold cutRs; rw [lst_oL, List.length_map, List.length_take]; omega
theorem cutRs_v (l : Option (List Rw)) : ∀ w ∈ lst (cutRs l), (lst w.v).length ≤ 5 := by
 intro w hw
 unfold cutRs at hw
 rw [lst_oL] at hw
 obtain ⟨x, -, rfl⟩ := List.mem_map.1 hw
 show ((lst x.v).take 5).length ≤ 5
 rw [List.length_take]; omega
theorem ro_fz {R : List Rw} : (∀ x ∈ R.map rwV, Tr 11 x = true) ∧ ∀ x ∈ R.map rwV, ∀ c ∈ x.cells, Tr 11 c = true := by
 refine ⟨fun x hx => by obtain ⟨y, -, rfl⟩ := List.mem_map.1 hx; simp [rwV_eq, Tr, Tr_slV], fun x hx c hc => ?_⟩
 obtain ⟨y, -, rfl⟩ := List.mem_map.1 hx
 simp only [rwV_eq, V.cells, List.mem_cons, List.not_mem_nil, or_false] at hc
 rcases hc with rfl | rfl
 ·rfl
 ·exact Tr_slV _ _ _ _
theorem r14 (l : Option (List Rw)) (h : SmR l) : res T 14 [slV 2 rwV l] = some (slV 2 rwV (cutRs l)) := by
 refine run_res (run_pure (fn := g14) rfl rfl (by decide) ?_)
 simp only [g14, b14, zO, zN, zM, zL, zG, zP, zQ, zI, zA, zT, zF, zB, zC, zD, zE, zH, zJ, zK]
 have hl := h.1
 simp +contextual -implicitDefEqProofs (maxSteps := 2000000) only [↓wP, wS, seval]
 refine WC_for (lst l).length 0 (fun (j : Nat) env σ n => env 6 = slV 2 rwV l ∧ ∃ v, env 3 = v ∧ Pl σ 0 n 2 v (oL ((((lst l).take (min j 40)).map cutR).map rwV))) (by omega) (by decide) (by decide) (fun _ _ => rfl) (fun _ _ _ => rfl) ?_ ?_ _ _ _ rfl rfl ?_
 ·intro j env σ n hj h1 h2 ⟨h3, v, h4, h5⟩
  simp only [vl_tmp] at h2
  have hx : (lst l)[j]? = some (lst l)[j] := List.getElem?_eq_getElem hj
  have f := f27 _ (h.2 _ (List.getElem_mem hj))
  have ht : (lst l).take (j + 1) = (lst l).take j ++ [(lst l)[j]] := (List.take_append_getElem hj).symm
  generalize (lst l)[j] = x at *
  have hc := h5.cells
  have hsp := spl h5
  obtain ⟨σ1, hσ1⟩ : ∃ σ1, σ1 = upd (upd σ n (some (.row 2 [.agg [.int .u64 0, .nilS]]))) n (some (.row 2 [.agg [.int .u64 x.id, slV 1 i32V x.v]])) := ⟨_, rfl⟩
  have so : ∀ i, i < n → σ1 i = σ i := fun i hi => by rw [hσ1, upd_ne (by omega), upd_ne (by omega)]
  have sn : σ1 n = some (.row 2 [.agg [.int .u64 x.id, slV 1 i32V x.v]]) := by rw [hσ1, upd_self]
  by_cases h6 : (j : Int) < 40
  ·rw [show min j 40 = j by omega] at h5
   have hlen : ((((lst l).take j).map cutR).map rwV).length = j := by rw [List.length_map, List.length_map, List.length_take]; omega
   have hB := big_le
   have x3 : (n + 2 ≤ n + (1 + BIG)) = True := by simp; omega
   have x5 : ∀ a b : Sto, merge a b (n + 1) (n + 1) = b (n + 1) := fun a b => merge_in a b _ (Nat.le_refl _) (by omega)
   simp +contextual -implicitDefEqProofs (maxSteps := 2000000) only [↓wP, wS, seval, h1, h2, h3, h4, hx, rwV_eq, h6, f, ← hσ1, sn, x3, x5]
   refine stepW_app1 (m := 0) (n0 := n) (σ0 := σ) h5 (fun i g1 g2 => ?_) (by omega) (by omega) (Nat.zero_le _) ?_ (fun _ σ2 g1 g2 => ?_)
   ·rw [merge_low _ _ _ (by omega), so i g2]
   ·rw [lst_oL, hlen]; unfold LIM; omega
   ·rw [lst_oL, hlen] at g1 ⊢
    simp +contextual -implicitDefEqProofs (maxSteps := 2000000) only [↓wP, wS, seval, h1, h2, h3, hc, hsp]
    refine ⟨_, rfl, ?_⟩
    rw [show min (j + 1) 40 = j + 1 by omega, ht, List.map_append, List.map_append]
    have e2 : oL ((((lst l).take j).map cutR).map rwV ++ [rwV (cutR x)]) = some ((((lst l).take j).map cutR).map rwV ++ [rwV (cutR x)]) := by
     cases ((lst l).take j) <;> rfl
    simp only [List.map_cons, List.map_nil]
    rw [e2]
    exact g1
  ·simp +contextual -implicitDefEqProofs (maxSteps := 2000000) only [↓wP, wS, seval, h1, h2, h3, h4, hx, rwV_eq, h6, ← hσ1]
   rw [show min (j + 1) 40 = min j 40 by omega]
   exact ⟨_, rfl, h5.loc (fun i a b => so i b) (by omega)⟩
 ·intro env σ n ⟨h3, v, h4, h5⟩ h1 h2
  simp +contextual -implicitDefEqProofs (maxSteps := 2000000) only [↓wP, wS, seval, h4]
  have hf := h5.frz (by rw [lst_oL]; exact ro_fz.1) (by rw [lst_oL]; exact ro_fz.2)
  rw [hf, slV_oL]
  have : (lst l).take (min (lst l).length 40) = (lst l).take 40 := by rw [Nat.min_comm]; exact List.take_eq_take_min.symm
  rw [this]; rfl
 ·simp +contextual -implicitDefEqProofs (maxSteps := 2000000) only [↓wP, wS, seval]
  simp [oL, Pl]
def f14 (l : Option (List Rw)) (h : SmR l) := callE_tr (by decide) (r14 l h) (by simp [Tr, Tr_slV]) (Nw_slV _ _ _ _)
theorem roU_of {l : List Rw} (ha : Asc l) (hv : ∀ r ∈ l, okV r.v = true) : roU l l.length = true := by
 have key : ∀ n, n ≤ l.length → roU l n = true := by
  intro n
  induction n with
  | zero => intro _; rfl
  | succ n ih =>
    intro hn
    rw [roU_step (by omega : n < l.length), ih (by omega), Bool.true_and]
    unfold roN
    rw [hv _ (List.getElem_mem _), Bool.true_and]
    cases n with
    | zero => rfl
    | succ j =>
      have := (List.pairwise_iff_getElem.1 ha) j (j + 1) (by omega) (by omega) (by omega)
      simp only [List.getElem?_eq_getElem (show j < l.length by omega), decide_eq_true_eq]
      exact this
 exact key _ (Nat.le_refl _)
theorem roU_ok {l : List Rw} (h : roU l l.length = true) : ∀ r ∈ l, okV r.v = true := by
 intro r hr
 obtain ⟨j, hj, rfl⟩ := List.getElem_of_mem hr
 have := roU_pre h j hj hj
 unfold roN at this
 rw [Bool.and_eq_true] at this
 exact this.1
theorem rightW_of {l : List Wr} (hn : l.length ≤ 12) (h1 : ∀ w ∈ l, okW w = true) (h2 : l.Pairwise fun a b => bef a b = true) : rightW l = true := by
 have key : ∀ n, n ≤ l.length → wU l n = true := by
  intro n
  induction n with
  | zero => intro _; rfl
  | succ n ih =>
    intro hn
    rw [wU_step (by omega : n < l.length), ih (by omega), Bool.true_and]
    unfold okN
    rw [h1 _ (List.getElem_mem _), Bool.true_and]
    cases n with
    | zero => rfl
    | succ j =>
      have := (List.pairwise_iff_getElem.1 h2) j (j + 1) (by omega) (by omega) (by omega)
      simp only [List.getElem?_eq_getElem (show j < l.length by omega)]
      exact this
 unfold rightW
 rw [key _ (Nat.le_refl _), decide_eq_true hn]; rfl
theorem rightW_ok {l : List Wr} (h : rightW l = true) : ∀ w ∈ l, okW w = true := by
 unfold rightW at h
 rw [Bool.and_eq_true] at h
 have pre : ∀ n, n ≤ l.length → wU l n = true → ∀ j, j < n → (hj : j < l.length) → okN l j l[j] = true := by
  intro n
  induction n with
  | zero => intro _ _ j hj; omega
  | succ n ih =>
    intro hn hw j hj hjl
    rw [wU_step (by omega : n < l.length), Bool.and_eq_true] at hw
    by_cases e : j = n
    ·subst e; exact hw.2
    ·exact ih (by omega) hw.1 j (by omega) hjl
 intro r hr
 obtain ⟨j, hj, rfl⟩ := List.getElem_of_mem hr
 have := pre _ (Nat.le_refl _) h.2 j hj hj
 unfold okN at this
 rw [Bool.and_eq_true] at this
 exact this.1
theorem rightW_len {l : List Wr} (h : rightW l = true) : l.length ≤ 12 := by
 unfold rightW at h
 rw [Bool.and_eq_true, decide_eq_true_eq] at h
 exact h.1
theorem rightW_filter {l : List Wr} (h : rightW l = true) (p : Wr → Bool) : rightW (l.filter p) = true :=
 rightW_of (Nat.le_trans (List.length_filter_le _ _) (rightW_len h)) (fun w hw => rightW_ok h w (List.mem_filter.1 hw).1) ((w_pair h).filter p)
theorem okW_v {w : Wr} (h : okW w = true) (hg : w.g = false) : okV w.v = true := by
 unfold okW at h
 rw [hg] at h
 simp only [Bool.false_eq_true, if_false, Bool.and_eq_true] at h
 exact h.2
theorem ovE_zero {l : List Wr} {c : Int} {rows : List Rw} : ovE l c rows = 0 ↔ rightW l = true ∧ collB c = true ∧ roU rows rows.length = true := by
 unfold ovE
 cases rightW l <;> cases collB c <;> cases roU rows rows.length <;> simp
theorem mem_ovR {rows : List Rw} {W : List Wr} (hr : Asc rows) (hw : W.Pairwise fun a b => a.id < b.id) (x : Rw) :
 x ∈ ovR rows W ↔ (x ∈ rows ∧ ∀ w ∈ W, w.id ≠ x.id) ∨ ∃ w ∈ W, w.g = false ∧ x = ⟨w.id, w.v⟩ := by
 unfold ovR
 rw [fold_put hr]
 exact mem_ov (hw.imp fun {a b} h => by omega) x
theorem ovR_ok {l : List Wr} {rows : List Rw} (c : Int) (h1 : rightW l = true) (h2 : roU rows rows.length = true) : roU (ovR rows (l.filter fun w => w.c == c)) (ovR rows (l.filter fun w => w.c == c)).length = true := by
 refine roU_of (ovR_asc _ _) (fun r hr => ?_)
 rcases (mem_ovR (ro_asc h2) (w_ids h1 c) r).1 hr with ⟨h3, -⟩ | ⟨w, h3, h4, h5⟩
 ·exact roU_ok h2 r h3
 ·subst h5
  exact okW_v (rightW_ok h1 w (List.mem_filter.1 h3).1) h4
theorem ovR_twice {l : List Wr} {rows : List Rw} (c : Int) (h1 : rightW l = true) (h2 : roU rows rows.length = true) :
 ovR (ovR rows (l.filter fun w => w.c == c)) (l.filter fun w => w.c == c) = ovR rows (l.filter fun w => w.c == c) := by
 refine asc_uniq (ovR_asc _ _) (ovR_asc _ _) (fun x => ?_)
 rw [mem_ovR (ovR_asc _ _) (w_ids h1 c) x, mem_ovR (ro_asc h2) (w_ids h1 c) x]
 constructor
 ·rintro (⟨h3 | h3, h4⟩ | h3)
  ·exact .inl h3
  ·exact .inr h3
  ·exact .inr h3
 ·rintro (h3 | h3)
  ·exact .inl ⟨.inl h3, h3.2⟩
  ·exact .inr h3
theorem ov_twice {l : List Wr} {c : Int} {rows : List Rw} (he : ovE l c rows = 0) : ovE l c (ovL l c rows) = 0 ∧ ovL l c (ovL l c rows) = ovL l c rows := by
 obtain ⟨h1, h2, h3⟩ := ovE_zero.1 he
 have e1 : ovL l c rows = ovR rows (l.filter fun w => w.c == c) := by unfold ovL; rw [if_pos he]
 have e2 : ovE l c (ovR rows (l.filter fun w => w.c == c)) = 0 := ovE_zero.2 ⟨h1, h2, ovR_ok c h1 h3⟩
 rw [e1]
 refine ⟨e2, ?_⟩
 unfold ovL
 rw [if_pos e2]
 exact ovR_twice c h1 h3
theorem ov_none {c : Int} {rows : List Rw} (h2 : collB c = true) (h3 : roU rows rows.length = true) : ovE [] c rows = 0 ∧ ovL [] c rows = rows := by
 have e : ovE [] c rows = 0 := ovE_zero.2 ⟨rfl, h2, h3⟩
 refine ⟨e, ?_⟩
 unfold ovL
 rw [if_pos e]
 exact fold_put (ro_asc h3)
theorem ov_own {l : List Wr} {c : Int} {rows : List Rw} (he : ovE l c rows = 0) : ovE (ofW l c) c rows = 0 ∧ ovL (ofW l c) c rows = ovL l c rows := by
 obtain ⟨h1, h2, h3⟩ := ovE_zero.1 he
 have e0 : ofW l c = l.filter fun w => w.c == c := by unfold ofW; rw [if_pos h1]
 have e : ovE (ofW l c) c rows = 0 := ovE_zero.2 ⟨by rw [e0]; exact rightW_filter h1 _, h2, h3⟩
 refine ⟨e, ?_⟩
 unfold ovL
 rw [if_pos e, if_pos he, e0, List.filter_filter]
 simp
end Go.Q.SW
end

section
/- WritesTwice. -/
namespace Go.Q.SW
open Go.Q Go.Sort
open Nat renaming reduceEqDiff → n1w, reduceAdd → n2w, reduceSub → n3w, reduceLeDiff → n4w, reduceLT → n5w, reduceMul → n6w
open Int renaming reduceBNe → i1w, reduceBEq → i2w, reduceLT → i3w, reduceLE → i4w, reduceGT → i5w
theorem ovL_fit {l : List Wr} {c : Int} {rows : List Rw} (h1 : l.length ≤ 13) (h2 : rows.length ≤ 53) (hv1 : ∀ w ∈ l, (lst w.v).length ≤ 5) (hv2 : ∀ r ∈ rows, (lst r.v).length ≤ 5) : (ovL l c rows).length ≤ rows.length + l.length ∧ ∀ r ∈ ovL l c rows, (lst r.v).length ≤ 5 := by
 unfold ovL
 split
 ·have := ovR_len rows (l.filter fun w => w.c == c)
  have := List.length_filter_le (fun w : Wr => w.c == c) l
  exact ⟨by omega, ovR_all (P := fun v => (lst v).length ≤ 5) hv2 (fun w hw => hv1 w (List.mem_filter.1 hw).1)⟩
 ·exact ⟨by simp, by simp⟩
theorem ovL_bad {l : List Wr} {c : Int} {rows : List Rw} (h : ovE l c rows ≠ 0) : ovL l c rows = [] := by unfold ovL; rw [if_neg h]
theorem r5 (x : Option (List Wr)) (y : Option (List Rw)) (c : Int) (hx : SmW x) (hy : SmR y) :
 res T 5 [slV 4 wrV x, slV 2 rwV y, .int .i64 c] = some (.bool true) := by
 have c9 := f9 x hx
 have c14 := f14 y hy
 have l1 := cutWs_len x
 have l2 := cutRs_len y
 have v1 := cutWs_v x
 have v2 := cutRs_v y
 generalize cutWs x = w at *
 generalize cutRs y = o at *
 have hw : FitW (lst w) := ⟨by omega, fun z hz => by have := v1 z hz; omega⟩
 have ho : SmRo (lst o) := ⟨by omega, fun z hz => by have := v2 z hz; omega⟩
 have hor : SmR o := ⟨by omega, fun z hz => by have := v2 z hz; unfold Sm; omega⟩
 obtain ⟨n1, n2⟩ := ovL_fit (c := c) l1 (by omega) v1 v2
 have c15 := f15 w c o hw ho
 obtain ⟨a, ha⟩ : ∃ a, a = oL (ovL (lst w) c (lst o)) := ⟨_, rfl⟩
 have hal : lst a = ovL (lst w) c (lst o) := by rw [ha, lst_oL]
 have hav : SmRo (lst a) := ⟨by rw [hal]; omega, fun z hz => by rw [hal] at hz; have := n2 z hz; omega⟩
 have har : SmR a := ⟨by rw [hal]; omega, fun z hz => by rw [hal] at hz; have := n2 z hz; unfold Sm; omega⟩
 rw [← ha] at c15
 by_cases he : ovE (lst w) c (lst o) = 0
 ·obtain ⟨e1, e2⟩ := ov_twice he
  obtain ⟨h1, h2, h3⟩ := ovE_zero.1 he
  obtain ⟨e3, e4⟩ := ov_none h2 h3
  obtain ⟨e5, e6⟩ := ov_own he
  have c15b := f15 w c a hw hav
  rw [hal, e1, e2, ← ha] at c15b
  have c15c := f15 none c o ⟨by simp [lst], by simp [lst]⟩ ho
  have z0 : lst (none : Option (List Wr)) = [] := rfl
  rw [z0, e3, e4] at c15c
  have z1 : slV 4 wrV none = .nilS := rfl
  rw [z1] at c15c
  have c21 := f21 w c hw
  have hof : FitW (lst (oL (ofW (lst w) c))) := by
   rw [lst_oL]
   unfold ofW
   rw [if_pos h1]
   have := List.length_filter_le (fun w : Wr => w.c == c) (lst w)
   exact ⟨by omega, fun z hz => by have := v1 z (List.mem_filter.1 hz).1; omega⟩
  have c15d := f15 (oL (ofW (lst w) c)) c o hof ho
  rw [lst_oL, e5, e6, ← ha] at c15d
  have hno : SmR (oL (lst o)) := ⟨by rw [lst_oL]; exact hor.1, by rw [lst_oL]; exact hor.2⟩
  have c22 := f22 a a har har
  rw [same_r rfl] at c22
  have c22b := f22 (oL (lst o)) o hno hor
  rw [lst_oL, same_r rfl] at c22b
  generalize oL (ofW (lst w) c) = q at *
  rw [he] at c15
  have z2 : ((0 : Int) != 0) = false := rfl
  have z3 : ((0 : Int) == 0) = true := rfl
  refine run_res (run_pure (fn := g5) rfl rfl (by decide) ?_)
  simp only [g5, b5, zO, zN, zM, zL, zG, zP, zQ, zI, zA, zT, zF, zB, zC, zD, zE, zH, zJ, zK]
  simp +contextual -implicitDefEqProofs (maxSteps := 2000000) only [↓wP, wQ, wQ1, wQ2, wQ3, wR, boxE, partsOf, ↓reduceIte, n1w, n2w, n3w, n4w, n5w, n6w, reduceCtorEq, i1w, i2w, i3w, i4w, i5w, f8, c9, c14, c15, c15b, c15c, c15d, c21, c22, c22b, z2, z3]
 ·have hae : a = none := by rw [ha, ovL_bad he]; rfl
  have z2 : (ovE (lst w) c (lst o) != 0) = true := by simpa using he
  have z1 : slV 2 rwV none = .nilS := rfl
  rw [hae, z1] at c15
  refine run_res (run_pure (fn := g5) rfl rfl (by decide) ?_)
  simp only [g5, b5, zO, zN, zM, zL, zG, zP, zQ, zI, zA, zT, zF, zB, zC, zD, zE, zH, zJ, zK]
  simp +contextual -implicitDefEqProofs (maxSteps := 2000000) only [↓wP, wQ, wQ1, wQ2, wQ3, wR, boxE, partsOf, ↓reduceIte, n1w, n2w, n3w, n4w, n5w, n6w, reduceCtorEq, i1w, i2w, i3w, i4w, i5w, f8, c9, c14, c15, z2]
  rfl
end Go.Q.SW
end

section
/- slices.Insert and slices.Delete of rows of writes, walked. -/
namespace Go.Q.S16
open Go.Proofs Go.Shelf Go.RowKit Go.Lib
set_option maxHeartbeats 4000000 in
set_option maxRecDepth 100000 in
theorem ins_end (base : Option Addr) (n c vb vc : Nat) (w w1 : World) (u : Value) (hr : ∀ ty, (Builtin.append_ #[22, 22] ty #[.slice base n c, .slice (some ⟨vb, 0, none⟩) 1 vc]).run Try.prog w = .ok u w1) :
 Calls Try.prog 69 #[.slice base n c, .int .i64 n, .slice (some ⟨vb, 0, none⟩) 1 vc] w fun e w' => e = .returned u ∧ w' = w1 := by
 have hnn : n ≤ n := Nat.le_refl _
 cases base with
 | none =>
   go_enter Try.func69, Try.ntmps69
   go_wp2_with (at_builtin; refine Lib.wpList_append_run _ rfl _ _ _ _ rfl _ _ rfl rfl _ _ (hr _) ?_)
   all_goals (go_ret; exact ⟨rfl, rfl⟩)
 | some a =>
   obtain ⟨ab, ao, asp⟩ := a
   go_enter Try.func69, Try.ntmps69
   go_wp2_with (at_builtin; refine Lib.wpList_append_run _ rfl _ _ _ _ rfl _ _ rfl rfl _ _ (hr _) ?_)
   all_goals (go_ret; exact ⟨rfl, rfl⟩)
variable [Link]
theorem sz35 : ∀ w, (Go.sizeOf 35).run Try.prog w = .ok 4 w := fun w => by
 have h : (Try.prog.info? 35).map (·.size) = some 4 := by kernel_rfl
 cases hi : Try.prog.info? 35 with
 | none => rw [hi] at h; cases h
 | some i => rw [hi] at h; simp only [Option.map_some, Option.some.injEq] at h; simp [sizeOf, typeInfo, hi, h]
theorem info35 : ∃ i z, Try.prog.info? 35 = some i ∧ i.size = 4 ∧ i.bytes = 48 ∧ i.zero = some z ∧ z.cells.size = 4 := by
 have h : (Try.prog.info? 35).map (fun i => (i.size, i.bytes, i.zero.map (fun z => z.cells.size))) = some (4, 48, some 4) := by kernel_rfl
 cases hi : Try.prog.info? 35 with
 | none => rw [hi] at h; cases h
 | some i =>
   rw [hi] at h
   simp only [Option.map_some, Option.some.injEq, Prod.mk.injEq, Option.map_eq_some_iff] at h
   obtain ⟨h1, h2, z, h3, h4⟩ := h
   exact ⟨i, z, rfl, h1, h2, h3, h4⟩
set_option maxHeartbeats 4000000 in
set_option maxRecDepth 100000 in
theorem ins_grow (b n c i vb vc : Nat) (cs vs : Array Value) (ty tv : TypeId) (w : World) (hi : i < n) (hnc : n ≤ c) (hroom : c < n + 1) (hbig : (n + 1) * 48 ≤ 140737488355328) (hvb : vb ≠ b)
 (hb : w.heap[b]? = some (.cells cs ty (0, 0))) (hcz : c * 4 ≤ cs.size) (hv : w.heap[vb]? = some (.cells vs tv (0, 0))) (hvz : 4 ≤ vs.size)
 (h1 : (cut cs (i * 4) ((n - i) * 4)).all Value.oneCell' = true) (h2 : (cut vs 0 4).all Value.oneCell' = true) :
 Calls Try.prog 69 #[.slice (some ⟨b, 0, none⟩) n c, .int .i64 i, .slice (some ⟨vb, 0, none⟩) 1 vc] w fun e w' =>
  ∃ G ROW d, n + 1 ≤ G ∧ ROW.size = G * 4 ∧ (∀ k, k < i * 4 → ROW[k]? = cs[k]?) ∧ e = .returned (.slice (some ⟨w.heap.size, 0, none⟩) (n + 1) G) ∧
   w' = { putRow (w.alloc (.cells ROW 35)) w.heap.size (writeAt (writeAt ROW (i * 4) (cut vs 0 4)) ((i + 1) * 4) (cut cs (i * 4) ((n - i) * 4))) 35 with drawn := d } := by
 obtain ⟨i0, z0, hi0, hi1, hi2, hi3, hi4⟩ := info35
 have hz2 : ¬ ((i : Int) = (n : Int)) := by omega
 have hz3 : (c : Int) < (n : Int) + 1 := by omega
 have hlt := (Array.getElem?_eq_some_iff.1 hb).1
 have hltv := (Array.getElem?_eq_some_iff.1 hv).1
 have hkk : (n : Int) + 1 - (i : Int) = ((n + 1 - i : Nat) : Int) := by omega
 have hik : i + (n + 1 - i) = n + 1 := by omega
 have hold : (Builtin.firstCells i0.size i (.slice (some ⟨b, 0, none⟩) i c)).run Try.prog w.drew = .ok (cut cs 0 (i * 4)).toArray w.drew := by
  rw [hi1]
  exact cut_load (w := w.drew) hb (by omega)
 have hrz : ∀ ty, (Builtin.append_ #[22, 3] ty #[.slice (some ⟨b, 0, none⟩) i c, .int .i64 ((n : Int) + 1 - (i : Int))]).run Try.prog w =
  .ok (.slice (some ⟨w.heap.size, 0, none⟩) (n + 1) (grownCap w (n + 1) c 35)) (w.drew.alloc (.cells ((cut cs 0 (i * 4)).toArray ++ Builtin.zeroCells z0.cells (n + 1 - i) ++ Builtin.zeroCells z0.cells (grownCap w (n + 1) c 35 - (n + 1))) 35)) := fun ty => by
  have h := Lib.run_append_grow_zeros w 22 3 ty 35 i0 z0 .i64 .i64 Try.underlying22 Try.underlying3 hi0 hi3 (some ⟨b, 0, none⟩) i c _ hold (n + 1 - i) (by omega) (by omega) (by omega) (by omega) (by rw [hi2]; omega) (by rw [hi2, hik]; exact growslice_fits hroom hbig)
  rw [hik] at h
  rw [hkk]
  exact h
 obtain ⟨G, hG⟩ : ∃ G, G = grownCap w (n + 1) c 35 := ⟨_, rfl⟩
 obtain ⟨ROW, hROW⟩ : ∃ ROW : Array Value, ROW = (cut cs 0 (i * 4)).toArray ++ Builtin.zeroCells z0.cells (n + 1 - i) ++ Builtin.zeroCells z0.cells (G - (n + 1)) := ⟨_, rfl⟩
 rw [← hG] at hrz
 rw [← hROW] at hrz
 have hGn : n + 1 ≤ G := by rw [hG]; exact grownCap_ge w _ _ _
 have hG63 : G ≤ 9223372036854775807 := by
  have := grownCap_le_maxLen w (n + 1) c 35 (by unfold maxLen; omega)
  rw [← hG] at this
  unfold maxLen at this
  omega
 have hc0 : (cut cs 0 (i * 4)).length = i * 4 := cut_len (by omega)
 have hRl : ROW.size = G * 4 := by
  rw [hROW]
  simp only [Array.size_append, List.size_toArray, hc0, Builtin.zeroCells, Array.size_map, Array.size_range, hi4]
  omega
 have hR0 : ∀ k, k < i * 4 → ROW[k]? = cs[k]? := fun k hk => by
  rw [hROW, Array.append_assoc, Array.getElem?_append_left (by simp [hc0]; omega), List.getElem?_toArray, cut_get hk, Nat.zero_add]
 have hbB : b ≠ w.heap.size := by omega
 have hvB : vb ≠ w.heap.size := by omega
 have hW1B : (w.alloc (.cells ROW 35)).heap[w.heap.size]? = some (.cells ROW 35 (0, 0)) := by show (w.heap.push _)[w.heap.size]? = _; simp
 have hW1b : (w.alloc (.cells ROW 35)).heap[b]? = some (.cells cs ty (0, 0)) := by rw [Go.RowKit.Below.heap_alloc _ _ _ hlt]; exact hb
 have hW1v : (w.alloc (.cells ROW 35)).heap[vb]? = some (.cells vs tv (0, 0)) := by rw [Go.RowKit.Below.heap_alloc _ _ _ hltv]; exact hv
 have hWs : w.heap.size < (w.alloc (.cells ROW 35)).heap.size := by simp
 have hcpA : ∀ W : World, W.heap = (w.alloc (.cells ROW 35)).heap → ∀ ty' dc, (Builtin.copy_ #[22, 22] ty' #[.slice (some ⟨w.heap.size, i * 4, none⟩) (n + 1 - i) dc, .slice (some ⟨vb, 0, none⟩) 1 vc]).run Try.prog W = .ok (goInt 1) (putRow W w.heap.size (writeAt ROW (i * 4) (cut vs 0 4)) 35) := fun W hW ty' dc =>
  run_copyB (w := W) (sz := 4) (o := i * 4) (o' := 0) (l := 1) (dl := n + 1 - i) (k := 1) Try.underlying22 sz35 (by rw [hW]; exact hW1B) (by rw [hW]; exact hW1v) (by simp only [Nat.min_def]; split <;> omega) (by omega) (by omega) h2
 have hcpB : ∀ W : World, W.heap = (putRow (w.alloc (.cells ROW 35)) w.heap.size (writeAt ROW (i * 4) (cut vs 0 4)) 35).heap → ∀ ty' dc sc, (Builtin.copy_ #[22, 22] ty' #[.slice (some ⟨w.heap.size, (i + 1) * 4, none⟩) (n + 1 - (i + 1)) dc, .slice (some ⟨b, i * 4, none⟩) (n - i) sc]).run Try.prog W =
  .ok (goInt ((n - i : Nat) : Int)) (putRow W w.heap.size (writeAt (writeAt ROW (i * 4) (cut vs 0 4)) ((i + 1) * 4) (cut cs (i * 4) ((n - i) * 4))) 35) := fun W hW ty' dc sc =>
  run_copyB (w := W) (sz := 4) (o := (i + 1) * 4) (o' := i * 4) (l := n - i) (dl := n + 1 - (i + 1)) (k := n - i) Try.underlying22 sz35 (by rw [hW]; exact putRow_heap_same hWs) (by rw [hW, putRow_heap_other hbB]; exact hW1b) (by simp only [Nat.min_def]; split <;> omega) (by simp; omega) (by omega) h1
 have core : Calls Try.prog 69 #[.slice (some ⟨b, 0, none⟩) n c, .int .i64 i, .slice (some ⟨vb, 0, none⟩) 1 vc] w fun e w' =>
  e = .returned (.slice (some ⟨w.heap.size, 0, none⟩) (n + 1) G) ∧ ∃ d, w' = { putRow (w.alloc (.cells ROW 35)) w.heap.size (writeAt (writeAt ROW (i * 4) (cut vs 0 4)) ((i + 1) * 4) (cut cs (i * 4) ((n - i) * 4))) 35 with drawn := d } := by
  clear hROW hG hold hkk hik hR0 hRl
  have hGi : ¬ (G = i) := by omega
  have hGim : ¬ (G = i + 1) := by omega
  have hci : ¬ (c = i) := by omega
  have hw1 : IntKind.i64.wrap ((i : Int) + 1) = (i : Int) + 1 := by rw [IntKind.wrap_i64]; omega
  have hw2 : IntKind.i64.wrap ((n : Int) + 1) = (n : Int) + 1 := by rw [IntKind.wrap_i64]; omega
  have hw3 : IntKind.i64.wrap ((n : Int) + 1 - (i : Int)) = (n : Int) + 1 - (i : Int) := by rw [IntKind.wrap_i64]; omega
  have hb1 : (0 : Int) ≤ (i : Int) + 1 := by omega
  have hin : i ≤ n := by omega
  have htn : ((i : Int) + 1).toNat = i + 1 := by omega
  have hb3 : (i : Int) ≤ (n : Int) := by omega
  have hE1 : ((w.alloc (.cells ROW 35)).drew).heap = (w.alloc (.cells ROW 35)).heap := rfl
  have hF1 : ((putRow ((w.alloc (.cells ROW 35)).drew) w.heap.size (writeAt ROW (i * 4) (cut vs 0 4)) 35).drew).heap = (putRow (w.alloc (.cells ROW 35)) w.heap.size (writeAt ROW (i * 4) (cut vs 0 4)) 35).heap := rfl
  have mixed : Try.prog.follows .mixedOrders = true := by kernel_rfl
  go_enter Try.func69, Try.ntmps69
  go_wp2_with (first
   | (at_builtin; refine Lib.wpList_append_run _ rfl _ _ _ _ rfl _ _ rfl rfl _ _ (hrz _) ?_)
   | (at_builtin; refine wpList_copy_runI _ rfl _ _ 22 22 rfl _ _ rfl rfl (hcpA _ hE1 _ _) ?_))
  go_region_law_o (refine step_copy_runI rfl _ _ 22 22 rfl (.slice (some ⟨w.heap.size, (i + 1) * 4, none⟩) (n + 1 - (i + 1)) (G - (i + 1))) (.slice (some ⟨b, i * 4, none⟩) (n - i) (c - i)) (by simp [Act.eval, Act.put]) (by simp [Act.eval, Act.put]) (hcpB _ hF1 _ (G - (i + 1)) (c - i)) ?_)
  go_wp2
  go_ret
  refine ⟨rfl, (w.alloc (.cells ROW 35)).drew.drew.drawn, ?_⟩
  rw [show ∀ W : World, ∀ x y, putRow (putRow W w.heap.size x 35).drew w.heap.size y 35 = putRow W.drew w.heap.size y 35 from fun W x y => putRow_twice (w := W.drew)]
  rfl
 exact core.mono fun e w' ⟨h1, d, h2⟩ => ⟨G, ROW, d, hGn, hRl, hR0, h1, h2⟩
set_option maxHeartbeats 4000000 in
set_option maxRecDepth 100000 in
theorem ins_shift (b n c i vb vc : Nat) (cs vs : Array Value) (ty tv : TypeId) (w : World) (hi : i < n) (hroom : n + 1 ≤ c) (hbig : (n + 1) * 48 ≤ 140737488355328) (hvb : vb ≠ b)
 (hb : w.heap[b]? = some (.cells cs ty (0, 0))) (hcz : c * 4 ≤ cs.size) (hv : w.heap[vb]? = some (.cells vs tv (0, 0))) (hvz : 4 ≤ vs.size)
 (h1 : (cut cs (i * 4) ((n - i) * 4)).all Value.oneCell' = true) (h2 : (cut vs 0 4).all Value.oneCell' = true) :
 Calls Try.prog 69 #[.slice (some ⟨b, 0, none⟩) n c, .int .i64 i, .slice (some ⟨vb, 0, none⟩) 1 vc] w fun e w' =>
  e = .returned (.slice (some ⟨b, 0, none⟩) (n + 1) c) ∧ w' = putRow w.drew b (writeAt (writeAt cs ((i + 1) * 4) (cut cs (i * 4) ((n - i) * 4))) (i * 4) (cut vs 0 4)) ty := by
 have hz2 : ¬ ((i : Int) = (n : Int)) := by omega
 have hov : ∀ lb cb, (callFunc 82 #[.slice (some ⟨vb, 0, none⟩) 1 vc, .slice (some ⟨b, (i + 1) * 4, none⟩) lb cb]).run Try.prog w = .ok (.value (.bool false)) w := fun lb cb => by
  rw [run_callFunc_extern Try.func82 (by kernel_rfl) (by kernel_rfl) (by kernel_rfl) (e := Extern.SlicesOverlaps.overlaps #[22, 22] #[4]) (by kernel_rfl),
   Lib.run_overlaps_apart w 22 4 35 Try.underlying22 4 sz35 ⟨vb, 0, none⟩ ⟨b, (i + 1) * 4, none⟩ 1 vc lb cb hvb tv ty vs.size cs.size (by simp [World.shape?, hv]) (by simp [World.shape?, hb]) (by omega) (by simp [World.frozen?, hv]) (by simp [World.frozen?, hv])]
  rfl
 have hbd : w.drew.heap[b]? = some (.cells cs ty (0, 0)) := hb
 have hcp1 : ∀ ty' dc sc, (Builtin.copy_ #[22, 22] ty' #[.slice (some ⟨b, (i + 1) * 4, none⟩) (n + 1 - (i + 1)) dc, .slice (some ⟨b, i * 4, none⟩) (n + 1 - i) sc]).run Try.prog w.drew = .ok (goInt ((n - i : Nat) : Int)) (putRow w.drew b (writeAt cs ((i + 1) * 4) (cut cs (i * 4) ((n - i) * 4))) ty) := fun ty' dc sc =>
  run_copyB (w := w.drew) (sz := 4) (o := (i + 1) * 4) (o' := i * 4) (l := n + 1 - i) (dl := n + 1 - (i + 1)) (k := n - i) Try.underlying22 sz35 hbd hbd (by simp only [Nat.min_def]; split <;> omega) (by omega) (by omega) h1
 have hlt := (Array.getElem?_eq_some_iff.1 hb).1
 have hW1b : (putRow w.drew b (writeAt cs ((i + 1) * 4) (cut cs (i * 4) ((n - i) * 4))) ty).heap[b]? = some (.cells (writeAt cs ((i + 1) * 4) (cut cs (i * 4) ((n - i) * 4))) ty (0, 0)) := putRow_heap_same hlt
 have hW1v : (putRow w.drew b (writeAt cs ((i + 1) * 4) (cut cs (i * 4) ((n - i) * 4))) ty).heap[vb]? = some (.cells vs tv (0, 0)) := by rw [putRow_heap_other hvb]; exact hv
 have hcp2 : ∀ ty' dc, (Builtin.copy_ #[22, 22] ty' #[.slice (some ⟨b, i * 4, none⟩) (n + 1 - i) dc, .slice (some ⟨vb, 0, none⟩) 1 vc]).run Try.prog (putRow w.drew b (writeAt cs ((i + 1) * 4) (cut cs (i * 4) ((n - i) * 4))) ty) = .ok (goInt 1) (putRow w.drew b (writeAt (writeAt cs ((i + 1) * 4) (cut cs (i * 4) ((n - i) * 4))) (i * 4) (cut vs 0 4)) ty) := fun ty' dc => by
  rw [run_copyB (w := (putRow w.drew b (writeAt cs ((i + 1) * 4) (cut cs (i * 4) ((n - i) * 4))) ty)) (sz := 4) (o := i * 4) (o' := 0) (l := 1) (dl := n + 1 - i) (k := 1) Try.underlying22 sz35 hW1b hW1v (by simp only [Nat.min_def]; split <;> omega) (by simp; omega) (by omega) h2, putRow_twice]
  rfl
 have hw1 : IntKind.i64.wrap ((i : Int) + 1) = (i : Int) + 1 := by rw [IntKind.wrap_i64]; omega
 have hw2 : IntKind.i64.wrap ((n : Int) + 1) = (n : Int) + 1 := by rw [IntKind.wrap_i64]; omega
 have hb1 : (0 : Int) ≤ (i : Int) + 1 := by omega
 have hb1' : (0 : Int) ≤ (n : Int) + 1 := by omega
 have hin : i ≤ n := by omega
 have htn : ((i : Int) + 1).toNat = i + 1 := by omega
 have htn' : ((n : Int) + 1).toNat = n + 1 := by omega
 have hb2 : ¬ (c = i + 1) := by omega
 have hb3 : (i : Int) ≤ (n : Int) + 1 := by omega
 have hb4 : ¬ (c = i) := by omega
 have hb5 : ¬ ((c : Int) < (n : Int) + 1) := by omega
 have mixed : Try.prog.follows .mixedOrders = true := by kernel_rfl
 go_enter Try.func69, Try.ntmps69
 go_wp2_with (simp only [hov])
 go_region_law_o (refine step_copy_runI rfl _ _ 22 22 rfl (.slice (some ⟨b, (i + 1) * 4, none⟩) (n + 1 - (i + 1)) (c - (i + 1))) (.slice (some ⟨b, i * 4, none⟩) (n + 1 - i) (c - i)) (by simp [Act.eval, Act.put]) (by simp [Act.eval, Act.put]) (hcp1 _ (c - (i + 1)) (c - i)) ?_)
 go_wp2_with (at_builtin; refine wpList_copy_runI _ rfl _ _ 22 22 rfl _ _ rfl rfl (hcp2 _ _) ?_)
 go_ret
 exact ⟨rfl, rfl⟩
theorem ti35 : ∃ j, ti Try.prog 35 = some j ∧ j.flat = true ∧ j.size = 4 ∧ j.bytes = 48 := by
 have h : (ti Try.prog 35).map (fun i => (i.flat, i.size, i.bytes)) = some (true, 4, 48) := by kernel_rfl
 cases hi : ti Try.prog 35 with
 | none => rw [hi] at h; cases h
 | some i =>
   rw [hi] at h
   simp only [Option.map_some, Option.some.injEq, Prod.mk.injEq] at h
   exact ⟨i, rfl, h.1, h.2.1, h.2.2⟩
set_option maxHeartbeats 4000000 in
set_option maxRecDepth 100000 in
theorem del_one (b n c i : Nat) (cs : Array Value) (ty : TypeId) (w : World) (hi : i < n) (hnc : n ≤ c) (hbig : n * 48 ≤ 140737488355328)
 (hb : w.heap[b]? = some (.cells cs ty (0, 0))) (hcz : c * 4 ≤ cs.size)
 (h1 : (cut cs ((i + 1) * 4) ((n - (i + 1)) * 4)).all Value.oneCell' = true) :
 Calls Try.prog 56 #[.slice (some ⟨b, 0, none⟩) n c, .int .i64 i, .int .i64 ((i : Int) + 1)] w fun e w' =>
  ∃ (zs : List Value) (d : Nat), zs.length = 4 ∧ e = .returned (.slice (some ⟨b, 0, none⟩) (n - 1) c) ∧ w' = { putRow w b (writeAt (writeAt cs (i * 4) (cut cs ((i + 1) * 4) ((n - (i + 1)) * 4))) ((n - 1) * 4) zs) ty with drawn := d } := by
 obtain ⟨j, hj, hjf, hjs, hjb⟩ := ti35
 have hlt := (Array.getElem?_eq_some_iff.1 hb).1
 have hap : ∀ (A : Addr) (sc : Nat), (n - (i + 1) = 0 ∨ A = ⟨b, (i + 1) * 4, none⟩) → ∀ ty', (Builtin.append_ #[22, 22] ty' #[.slice (some ⟨b, 0, none⟩) i c, .slice (some A) (n - (i + 1)) sc]).run Try.prog w.drew =
  .ok (.slice (some ⟨b, 0, none⟩) (n - 1) c) (putRow w.drew b (writeAt cs (i * 4) (cut cs ((i + 1) * 4) ((n - (i + 1)) * 4))) ty) := fun A sc hA ty' => by
  have h := run_appB (w := w.drew) (t := 22) (ty := ty') (o := (i + 1) * 4) (n := i) (dc := c) (l := n - (i + 1)) (c := sc) (A := A) Try.underlying22 hj hb hA (by omega) (by rw [hjs]; omega) (by rw [hjs]; omega) (by rw [hjs]; exact h1)
  rw [hjs, show i + (n - (i + 1)) = n - 1 by omega] at h
  exact h
 obtain ⟨zs, hzl, hcl⟩ := run_clearB (P := Try.prog) (w := putRow w.drew b (writeAt cs (i * 4) (cut cs ((i + 1) * 4) ((n - (i + 1)) * 4))) ty) (t := 22) (ty := 0) (b := b) (o := (n - 1) * 4) (k := 1) (c := c - (n - 1)) Try.underlying22 hj hjf (by omega) (putRow_heap_same hlt) (by simp [hjs]; omega)
 rw [hjs] at hzl
 rw [putRow_twice] at hcl
 have core : Calls Try.prog 56 #[.slice (some ⟨b, 0, none⟩) n c, .int .i64 i, .int .i64 ((i : Int) + 1)] w fun e w' =>
  e = .returned (.slice (some ⟨b, 0, none⟩) (n - 1) c) ∧ w' = { putRow w b (writeAt (writeAt cs (i * 4) (cut cs ((i + 1) * 4) ((n - (i + 1)) * 4))) ((n - 1) * 4) zs) ty with drawn := w.drawn + 1 } := by
  have mixed : Try.prog.follows .mixedOrders = true := by kernel_rfl
  have hin : i ≤ n := by omega
  have hin1 : (i : Int) + 1 ≤ (n : Int) := by omega
  have hne : ¬ ((i : Int) = (i : Int) + 1) := by omega
  have hb1 : (0 : Int) ≤ (i : Int) + 1 := by omega
  have htn : ((i : Int) + 1).toNat = i + 1 := by omega
  have hic : i ≤ c := by omega
  have hjc : i + 1 ≤ c := by omega
  have hcn : ¬ (c = n - 1) := by omega
  have hn1 : n - (n - 1) = 1 := by omega
  have hnm : n - 1 ≤ n := by omega
  have hci : ¬ (c = i) := by omega
  obtain ⟨A, hA, hA'⟩ : ∃ A : Addr, (if c = i + 1 then some (⟨b, 0, none⟩ : Addr) else some ⟨b, (i + 1) * 4, none⟩) = some A ∧ (n - (i + 1) = 0 ∨ A = ⟨b, (i + 1) * 4, none⟩) := by
   by_cases h : c = i + 1
   ·exact ⟨⟨b, 0, none⟩, by simp [h], .inl (by omega)⟩
   ·exact ⟨⟨b, (i + 1) * 4, none⟩, by simp [h], .inr rfl⟩
  have hapA := hap A (c - (i + 1)) hA'
  clear hap hA' hj hjf hjs hjb
  go_enter Try.func56, Try.ntmps56
  go_wp2_with fail
  go_region_law_o (refine step_append_runI rfl _ _ 22 22 rfl (.slice (some ⟨b, 0, none⟩) i c) (.slice (some A) (n - (i + 1)) (c - (i + 1))) (by simp [Act.eval, Act.put]) (by simp [Act.eval, Act.put, hA]) (hapA 22) ?_)
  go_wp2_with (at_builtin; refine wpList_clear_runI _ rfl _ 22 rfl _ rfl hcl ?_)
  go_ret
  exact ⟨rfl, rfl⟩
 exact core.mono fun e w' ⟨h1, h2⟩ => ⟨zs, _, by omega, h1, h2⟩
end Go.Q.S16
end

section
/- slices.Insert and slices.Delete of rows of writes: what the evaluator takes them for, they do. -/
namespace Go.Q.S16
open Go.Proofs Go.RowKit
theorem del_ok : PrimOk Try.prog 56 (delP 4 48) := by
 intro L w X ι σ n lk args us r hp hw hln hrep
 letI := L
 unfold delP at hp
 split at hp
 ·rename_i id len sz' i j
  split at hp
  ·rename_i sz'' xs hrow
   split at hp
   ·rename_i hc
    obtain ⟨rfl, rfl, hlen, hi0, hil, rfl, hlk, hbig⟩ := hc
    simp only [Option.some.injEq] at hp
    subst hp
    obtain ⟨i, rfl⟩ : ∃ k : Nat, i = (k : Int) := ⟨i.toNat, by omega⟩
    simp only [Int.toNat_natCast] at *
    have hlt : i < len := by omega
    obtain ⟨hus, hr⟩ := hrep
    obtain ⟨s, v1, v2, rfl⟩ : ∃ s v1 v2, us = #[s, v1, v2] := by
     have : us.size = 3 := hus
     exact ⟨us[0], us[1], us[2], by apply Array.ext; · simp [this]
                                    ·intro k h1 h2
                                     match k with
                                     | 0 => rfl
                                     | 1 => rfl
                                     | 2 => rfl
                                     | k + 3 => omega⟩
    have r0 := hr 0 _ _ rfl rfl
    have r1 := hr 1 _ _ rfl rfl
    have r2 := hr 2 _ _ rfl rfl
    obtain ⟨cs, ty, u, g1, g2, g3, g4, g5, g6⟩ := row_cells hw hrow (by omega)
    cases r1
    cases r2
    cases r0 with
    | ref _ _ _ _ c o cells ty' fz hid hcl ho hm hz =>
      have hc0 : c ≠ 0 := by omega
      have ho0 : o = 0 := by rcases ho with h | h; exact absurd h hc0; omega
      subst ho0
      rw [g1] at hm
      cases hm
      have hz' : c * 4 ≤ cs.size := by rcases hz with h | h; exact absurd h hc0; simpa using h
      have hk := del_one (ι id) len c i cs ty w hlt hcl (by omega) g1 hz' (cut_all fun k h1 h2 => g6 k (by omega))
      refine hk.mono fun e w' hh => ?_
      obtain ⟨zs, d, hzl, rfl, rfl⟩ := hh
      have hcutl : (cut cs ((i + 1) * 4) ((len - (i + 1)) * 4)).length = (len - (i + 1)) * 4 := cut_len (by omega)
      have hsz1 : (writeAt cs (i * 4) (cut cs ((i + 1) * 4) ((len - (i + 1)) * 4))).size = cs.size := by simp
      have hxl : (xs.take i ++ xs.drop (i + 1)).length = len - 1 := by simp; omega
      have hget : ∀ q, (xs.take i ++ xs.drop (i + 1))[q]? = if q < i then xs[q]? else xs[q + 1]? := fun q => by
       rw [List.getElem?_append]
       have : (xs.take i).length = i := by simp; omega
       rw [this]
       split
       ·rename_i h; rw [List.getElem?_take, if_pos h]
       ·rw [List.getElem?_drop]; congr 1; omega
      obtain ⟨a1, a2⟩ := set_move (lk := lk) (xs' := xs.take i ++ xs.drop (i + 1)) (cs' := writeAt (writeAt cs (i * 4) (cut cs ((i + 1) * 4) ((len - (i + 1)) * 4))) ((len - 1) * 4) zs) hw hrow hlk g1 (by simp)
       (fun q r => if q < i then u q r else u (q + 1) r) (by rw [hxl]; omega)
       (fun x hx => g3 x (by
        rcases List.mem_append.1 hx with h | h
        ·exact List.mem_of_mem_take h
        ·exact List.mem_of_mem_drop h))
       (fun q r hq hr => by
        rw [hxl] at hq
        rw [writeAt_get _ _ _ _ (by rw [hsz1, hzl]; omega), if_neg (by omega), writeAt_get _ _ _ _ (by rw [hcutl]; omega), hcutl]
        by_cases h : q < i
        ·rw [if_neg (by omega), if_pos h]
         exact g4 q r (by omega) hr
        ·rw [if_pos (by omega), if_neg h, cut_get (by omega)]
         have := g4 (q + 1) r (by omega) hr
         rw [← this]
         congr 1
         omega)
       (fun q x r e hx he => by
        rw [hget] at hx
        by_cases h : q < i
        ·rw [if_pos h] at hx; rw [if_pos h]; exact g5 _ _ _ _ hx he
        ·rw [if_neg h] at hx; rw [if_neg h]; exact g5 _ _ _ _ hx he) d
      refine ⟨_, X, setι ι n (ι id), rfl, a1, ?_, a2⟩
      have hb := putRow_heap_same (w := w) (cs := writeAt (writeAt cs (i * 4) (cut cs ((i + 1) * 4) ((len - (i + 1)) * 4))) ((len - 1) * 4) zs) (ty := ty) (Array.getElem?_eq_some_iff.1 g1).1
      have hιn : setι ι n (ι id) n = ι id := by simp [setι]
      have := Rep.ref (w := { putRow w (ι id) (writeAt (writeAt cs (i * 4) (cut cs ((i + 1) * 4) ((len - (i + 1)) * 4))) ((len - 1) * 4) zs) ty with drawn := d }) (X := X) (ι := setι ι n (ι id)) (n := n + 1) n 0 (len - 1) 4 c 0 _ ty (0, 0) (by omega) (by omega) (.inr (by omega)) (by rw [hιn]; exact hb) (.inr (by simp; omega))
      rw [hιn] at this
      exact this
   ·cases hp
  ·cases hp
 ·cases hp
end Go.Q.S16
end

section
/- slices.Insert: what the evaluator takes it for, it does. -/
namespace Go.Q.S16
open Go.Proofs Go.RowKit
theorem app_run [Link] {w : World} {X : Nat → Prop} {ι : Nat → Nat} {σ σ' : Sto} {n n' lk : Nat} {s y v : V} {us uy : Value} (hw : WF w X ι σ n) (hln : lk ≤ n) (hs : Rep w X ι n s us) (hy : Rep w X ι n y uy)
 (h : ev (fun o => match o with | .tmp 0 => s | _ => y) σ n lk (.append 4 48 (.tmp 0) (.tmp 1)) = some (v, σ', n')) :
 ∃ u w', (∀ ty, (Builtin.append_ #[22, 22] ty #[us, uy]).run Try.prog w = .ok u w') ∧ ∃ X' ι', WF w' X' ι' σ' n' ∧ Rep w' X' ι' n' v u ∧ Ext w w' X X' ι ι' σ σ' n n' lk := by
 obtain ⟨j, hj, hjf, hjs, hjb⟩ := ti35
 have g := ev_append (P := Try.prog) (ρ := fun o => match o with | .tmp 0 => us | _ => uy) (ρ' := fun o => match o with | .tmp 0 => s | _ => y) (ty := 0) (t := 22) (t' := 22) (e := 35) (e' := 35) (x := .tmp 0) (y := .tmp 1) (x' := .tmp 0) (y' := .tmp 1)
  hw hln hs hy Try.underlying22 Try.underlying22 hj hjf (by rw [hjs, hjb]; exact h)
 obtain ⟨w', X', ι', u, hr, hrep, hw', he⟩ := g
 refine ⟨u, w', fun ty => ?_, X', ι', hw', hrep, he⟩
 change (Builtin.append_ #[22, 22] 0 #[us, uy]).run Try.prog w = .ok u w'
 simp only [Sem.run_bind] at hr
 cases hq : (Builtin.append_ #[22, 22] 0 #[us, uy]).run Try.prog w with
 | ok a w1 =>
   rw [hq] at hr
   simp at hr
   obtain ⟨rfl, rfl⟩ := hr
   rfl
 | halt h1 h2 => rw [hq] at hr; simp at hr
theorem ins_ok : PrimOk Try.prog 69 (insP 4 48) := by
 intro L w X ι σ n lk args us r hp hw hln hrep
 letI := L
 unfold insP at hp
 split at hp
 ·rename_i s i id2 sz2
  split at hp
  ·rename_i sz3 y hrow2
   split at hp
   ·rename_i hc
    obtain ⟨rfl, rfl, -⟩ := hc
    obtain ⟨hus, hr⟩ := hrep
    obtain ⟨u0, u1, u2, rfl⟩ : ∃ s v1 v2, us = #[s, v1, v2] := by
     have : us.size = 3 := hus
     exact ⟨us[0], us[1], us[2], by apply Array.ext; · simp [this]
                                    ·intro k h1 h2
                                     match k with
                                     | 0 => rfl
                                     | 1 => rfl
                                     | 2 => rfl
                                     | k + 3 => omega⟩
    have r0 := hr 0 _ _ rfl rfl
    have r1 := hr 1 _ _ rfl rfl
    have r2 := hr 2 _ _ rfl rfl
    obtain ⟨vs, tv, uv, k1, k2, k3, k4, k5, k6⟩ := row_cells hw hrow2 (by omega)
    cases r1
    have r2' := r2
    cases r2 with
    | ref _ _ _ _ c2 o2 cells2 ty2' fz2 hid2 hcl2 ho2 hm2 hz2 =>
    have ho20 : o2 = 0 := by rcases ho2 with h | h; omega; omega
    subst ho20
    have hvz : 4 ≤ vs.size := by simpa using k2
    have hel : elems σ 4 (.ref id2 0 1 4) = some [y] := by simp [elems, hrow2]
    split at hp
    ·-- nothing there
     split at hp
     ·rename_i hi
      subst hi
      simp only [Option.some.injEq] at hp
      subst hp
      cases r0
      obtain ⟨u, w', g1, X', ι', g2, g3, g4⟩ := app_run (lk := lk) (s := .nilS) (y := .ref id2 0 1 4) (v := .ref n 0 1 4) (σ' := upd σ n (some (.row 4 [y]))) (n' := n + 1) hw hln .nilS r2' (by
       simp only [ev, hel]
       simp [LIM])
      have hk := ins_end none 0 0 (ι id2) c2 w w' u g1
      refine hk.mono fun e w1 hh => ?_
      obtain ⟨rfl, rfl⟩ := hh
      exact ⟨u, X', ι', rfl, g2, g3, g4⟩
     ·cases hp
    ·rename_i id len sz'
     split at hp
     ·rename_i sz'' xs hrow
      split at hp
      ·rename_i hc
       obtain ⟨rfl, rfl, hlen, hi0, hil, hlk, hne, hbig⟩ := hc
       simp only [Option.some.injEq] at hp
       subst hp
       obtain ⟨i, rfl⟩ : ∃ k : Nat, i = (k : Int) := ⟨i.toNat, by omega⟩
       simp only [Int.toNat_natCast] at *
       by_cases hie : i = len
       ·-- at the end
        subst hie
        have r0' := r0
        cases r0 with
        | ref _ _ _ _ c o cells ty' fz hid hcl ho hm hz =>
        have htk : xs.take i ++ y :: xs.drop i = xs.take i ++ [y] := by rw [hlen, List.drop_length]
        obtain ⟨u, w', g1, X', ι', g2, g3, g4⟩ := app_run (lk := lk) (s := .ref id 0 i 4) (y := .ref id2 0 1 4) (v := .ref n 0 (i + 1) 4) (σ' := upd (upd σ id none) n (some (.row 4 (xs.take i ++ y :: xs.drop i)))) (n' := n + 1) hw hln r0' r2' (by
         simp only [ev, hel, hrow, htk]
         rw [if_pos ⟨trivial, trivial, trivial, by omega, hlk, by simp only [List.length_singleton]; unfold LIM; omega⟩]
         rfl)
        have hk := ins_end (some ⟨ι id, o, none⟩) i c (ι id2) c2 w w' u g1
        refine hk.mono fun e w1 hh => ?_
        obtain ⟨rfl, rfl⟩ := hh
        exact ⟨u, X', ι', rfl, g2, g3, g4⟩
       ·obtain ⟨cs, ty, u, g1, g2, g3, g4, g5, g6⟩ := row_cells hw hrow (by omega)
        cases r0 with
        | ref _ _ _ _ c o cells ty' fz hid hcl ho hm hz =>
        have hc0 : c ≠ 0 := by omega
        have ho0 : o = 0 := by rcases ho with h | h; exact absurd h hc0; omega
        subst ho0
        rw [g1] at hm
        cases hm
        have hz' : c * 4 ≤ cs.size := by rcases hz with h | h; exact absurd h hc0; simpa using h
        have hlt : i < len := by omega
        have hbb : ι id2 ≠ ι id := fun e => hne (hw.inj id2 id (by rw [hrow2]; simp) (by rw [hrow]; simp) e).symm
        have hc1 : (cut cs (i * 4) ((len - i) * 4)).all Value.oneCell' = true := cut_all fun k h1 h2 => g6 k (by omega)
        have hc2 : (cut vs 0 4).all Value.oneCell' = true := cut_all fun k h1 h2 => k6 k (by simp; omega)
        have hcutl : (cut cs (i * 4) ((len - i) * 4)).length = (len - i) * 4 := cut_len (by omega)
        have hcutv : (cut vs 0 4).length = 4 := cut_len (by omega)
        have hxl : (xs.take i ++ y :: xs.drop i).length = len + 1 := by simp; omega
        have hget : ∀ q, (xs.take i ++ y :: xs.drop i)[q]? = if q < i then xs[q]? else if q = i then some y else xs[q - 1]? := fun q => by
         rw [List.getElem?_append]
         have : (xs.take i).length = i := by simp; omega
         rw [this]
         split
         ·rename_i h; rw [List.getElem?_take, if_pos h]
         ·by_cases h : q = i
          ·subst h; simp
          ·rw [if_neg h]
           obtain ⟨p, hp⟩ : ∃ p, q - i = p + 1 := ⟨q - i - 1, by omega⟩
           rw [hp, List.getElem?_cons_succ, List.getElem?_drop]
           congr 1; omega
        have hsz : ∀ x ∈ xs.take i ++ y :: xs.drop i, x.cells.length = 4 ∧ x.cells.all V.one = true := fun x hx => by
         rcases List.mem_append.1 hx with h | h
         ·exact g3 x (List.mem_of_mem_take h)
         ·rcases List.mem_cons.1 h with rfl | h
          ·exact k3 _ (by simp)
          ·exact g3 x (List.mem_of_mem_drop h)
        have hrp : ∀ (q : Nat) (x : V) (r : Nat) (e : V), (xs.take i ++ y :: xs.drop i)[q]? = some x → x.cells[r]? = some e → Rep w X ι n e ((fun q r => if q < i then u q r else if q = i then uv 0 r else u (q - 1) r) q r) := fun q x r e hx he => by
         rw [hget] at hx
         by_cases h : q < i
         ·rw [if_pos h] at hx; simp only [if_pos h]; exact g5 _ _ _ _ hx he
         ·rw [if_neg h] at hx; simp only [if_neg h]
          by_cases h' : q = i
          ·rw [if_pos h'] at hx; simp only [if_pos h']
           cases hx
           exact k5 0 _ _ _ rfl he
          ·rw [if_neg h'] at hx; simp only [if_neg h']; exact g5 _ _ _ _ hx he
        by_cases hroom : len + 1 ≤ c
        ·have hk := ins_shift (ι id) len c i (ι id2) c2 cs vs ty tv w hlt hroom (by omega) hbb g1 hz' k1 hvz hc1 hc2
         refine hk.mono fun e w' hh => ?_
         obtain ⟨rfl, rfl⟩ := hh
         have hsz1 : (writeAt cs ((i + 1) * 4) (cut cs (i * 4) ((len - i) * 4))).size = cs.size := by simp
         obtain ⟨a1, a2⟩ := set_move (lk := lk) (xs' := xs.take i ++ y :: xs.drop i) (cs' := writeAt (writeAt cs ((i + 1) * 4) (cut cs (i * 4) ((len - i) * 4))) (i * 4) (cut vs 0 4)) hw hrow hlk g1 (by simp)
          (fun q r => if q < i then u q r else if q = i then uv 0 r else u (q - 1) r) (by rw [hxl]; omega) hsz
          (fun q r hq hr4 => by
           rw [hxl] at hq
           rw [writeAt_get _ _ _ _ (by rw [hsz1, hcutv]; omega), hcutv]
           by_cases h : q < i
           ·rw [if_neg (by omega), writeAt_get _ _ _ _ (by rw [hcutl]; omega), hcutl, if_neg (by omega)]
            simp only [if_pos h]
            exact g4 q r (by omega) hr4
           ·by_cases h' : q = i
            ·subst h'
             rw [if_pos (by omega), cut_get (by omega)]
             simp only [h, if_false, if_true]
             have := k4 0 r (by simp) hr4
             rw [← this]
             congr 1
             omega
            ·rw [if_neg (by omega), writeAt_get _ _ _ _ (by rw [hcutl]; omega), hcutl, if_pos (by omega), cut_get (by omega)]
             simp only [if_neg h, if_neg h']
             have := g4 (q - 1) r (by omega) hr4
             rw [← this]
             congr 1
             omega)
          hrp w.drew.drawn
         refine ⟨_, X, setι ι n (ι id), rfl, a1, ?_, a2⟩
         have hb := putRow_heap_same (w := w) (cs := writeAt (writeAt cs ((i + 1) * 4) (cut cs (i * 4) ((len - i) * 4))) (i * 4) (cut vs 0 4)) (ty := ty) (Array.getElem?_eq_some_iff.1 g1).1
         have hιn : setι ι n (ι id) n = ι id := by simp [setι]
         have := Rep.ref (w := putRow w.drew (ι id) (writeAt (writeAt cs ((i + 1) * 4) (cut cs (i * 4) ((len - i) * 4))) (i * 4) (cut vs 0 4)) ty) (X := X) (ι := setι ι n (ι id)) (n := n + 1) n 0 (len + 1) 4 c 0 _ ty (0, 0) (by omega) (by omega) (.inr (by omega)) (by rw [hιn]; exact hb) (.inr (by simp; omega))
         rw [hιn] at this
         exact this
        ·have hk := ins_grow (ι id) len c i (ι id2) c2 cs vs ty tv w hlt hcl (by omega) (by omega) hbb g1 hz' k1 hvz hc1 hc2
         refine hk.mono fun e w' hh => ?_
         obtain ⟨G, ROW, d, hG, hRs, hR, rfl, rfl⟩ := hh
         rw [putRow_alloc]
         have hsz1 : (writeAt ROW (i * 4) (cut vs 0 4)).size = ROW.size := by simp
         obtain ⟨a1, a2⟩ := new_drop (lk := lk) (id := id) (xs' := xs.take i ++ y :: xs.drop i) (cs' := writeAt (writeAt ROW (i * 4) (cut vs 0 4)) ((i + 1) * 4) (cut cs (i * 4) ((len - i) * 4))) (ty := 35) hw hln hlk
          (fun q r => if q < i then u q r else if q = i then uv 0 r else u (q - 1) r) (by rw [hxl]; simp; omega) hsz
          (fun q r hq hr4 => by
           rw [hxl] at hq
           rw [writeAt_get _ _ _ _ (by rw [hsz1, hcutl]; omega), hcutl]
           by_cases h : q < i
           ·rw [if_neg (by omega), writeAt_get _ _ _ _ (by rw [hcutv]; omega), hcutv, if_neg (by omega), hR _ (by omega)]
            simp only [if_pos h]
            exact g4 q r (by omega) hr4
           ·by_cases h' : q = i
            ·subst h'
             rw [if_neg (by omega), writeAt_get _ _ _ _ (by rw [hcutv]; omega), hcutv, if_pos (by omega), cut_get (by omega)]
             simp only [h, if_false, if_true]
             have := k4 0 r (by simp) hr4
             rw [← this]
             congr 1
             omega
            ·rw [if_pos (by omega), cut_get (by omega)]
             simp only [if_neg h, if_neg h']
             have := g4 (q - 1) r (by omega) hr4
             rw [← this]
             congr 1
             omega)
          hrp d
         refine ⟨_, _, setι ι n w.heap.size, rfl, a1, ?_, a2⟩
         have hιn : setι ι n w.heap.size n = w.heap.size := by simp [setι]
         have := Rep.ref (w := { w.alloc (.cells (writeAt (writeAt ROW (i * 4) (cut vs 0 4)) ((i + 1) * 4) (cut cs (i * 4) ((len - i) * 4))) 35) with drawn := d }) (X := addX X w.heap.size) (ι := setι ι n w.heap.size) (n := n + 1) n 0 (len + 1) 4 G 0
          (writeAt (writeAt ROW (i * 4) (cut vs 0 4)) ((i + 1) * 4) (cut cs (i * 4) ((len - i) * 4))) 35 (0, 0) (by omega) (by omega) (.inr (by omega)) (by rw [hιn]; show (w.heap.push _)[w.heap.size]? = _; simp) (.inr (by simp; omega))
         rw [hιn] at this
         exact this
      ·cases hp
     ·cases hp
    ·cases hp
   ·cases hp
  ·cases hp
 ·cases hp
end Go.Q.S16
end

section
/- The table is the program's. -/
namespace Go.Q.SW
open Go.Proofs
def Has (f : Nat) (fn : Fn) : Prop := ∃ F, Try.prog.funcs[f]? = some F ∧ cFunc Try.prog (Go.Q.ownB T) F = some fn ∧ (F.name == "runtime.NumGoroutine") = false
theorem h5 : Has 5 g5 := ⟨Try.f5, Try.func5, by kernel_rfl, by kernel_rfl⟩
theorem h8 : Has 8 g8 := ⟨Try.f8, Try.func8, by kernel_rfl, by kernel_rfl⟩
theorem h9 : Has 9 g9 := ⟨Try.f9, Try.func9, by kernel_rfl, by kernel_rfl⟩
theorem h14 : Has 14 g14 := ⟨Try.f14, Try.func14, by kernel_rfl, by kernel_rfl⟩
theorem h15 : Has 15 g15 := ⟨Try.f15, Try.func15, by kernel_rfl, by kernel_rfl⟩
theorem h21 : Has 21 g21 := ⟨Try.f21, Try.func21, by kernel_rfl, by kernel_rfl⟩
theorem h22 : Has 22 g22 := ⟨Try.f22, Try.func22, by kernel_rfl, by kernel_rfl⟩
theorem h25 : Has 25 g25 := ⟨Try.f25, Try.func25, by kernel_rfl, by kernel_rfl⟩
theorem h26 : Has 26 g26 := ⟨Try.f26, Try.func26, by kernel_rfl, by kernel_rfl⟩
theorem h27 : Has 27 g27 := ⟨Try.f27, Try.func27, by kernel_rfl, by kernel_rfl⟩
theorem h32 : Has 32 g32 := ⟨Try.f32, Try.func32, by kernel_rfl, by kernel_rfl⟩
theorem h33 : Has 33 g33 := ⟨Try.f33, Try.func33, by kernel_rfl, by kernel_rfl⟩
theorem h37 : Has 37 g37 := ⟨Try.f37, Try.func37, by kernel_rfl, by kernel_rfl⟩
theorem h38 : Has 38 g38 := ⟨Try.f38, Try.func38, by kernel_rfl, by kernel_rfl⟩
theorem h39 : Has 39 g39 := ⟨Try.f39, Try.func39, by kernel_rfl, by kernel_rfl⟩
theorem h40 : Has 40 g40 := ⟨Try.f40, Try.func40, by kernel_rfl, by kernel_rfl⟩
theorem h41 : Has 41 g41 := ⟨Try.f41, Try.func41, by kernel_rfl, by kernel_rfl⟩
theorem h42 : Has 42 g42 := ⟨Try.f42, Try.func42, by kernel_rfl, by kernel_rfl⟩
theorem h43 : Has 43 g43 := ⟨Try.f43, Try.func43, by kernel_rfl, by kernel_rfl⟩
theorem h46 : Has 46 g46 := ⟨Try.f46, Try.func46, by kernel_rfl, by kernel_rfl⟩
theorem h47 : Has 47 g47 := ⟨Try.f47, Try.func47, by kernel_rfl, by kernel_rfl⟩
theorem h48 : Has 48 g48 := ⟨Try.f48, Try.func48, by kernel_rfl, by kernel_rfl⟩
theorem h49 : Has 49 g49 := ⟨Try.f49, Try.func49, by kernel_rfl, by kernel_rfl⟩
theorem h52 : Has 52 g52 := ⟨Try.f52, Try.func52, by kernel_rfl, by kernel_rfl⟩
theorem h53 : Has 53 g53 := ⟨Try.f53, Try.func53, by kernel_rfl, by kernel_rfl⟩
theorem h54 : Has 54 g54 := ⟨Try.f54, Try.func54, by kernel_rfl, by kernel_rfl⟩
theorem h55 : Has 55 g55 := ⟨Try.f55, Try.func55, by kernel_rfl, by kernel_rfl⟩
theorem h59 : Has 59 g59 := ⟨Try.f59, Try.func59, by kernel_rfl, by kernel_rfl⟩
theorem h60 : Has 60 g60 := ⟨Try.f60, Try.func60, by kernel_rfl, by kernel_rfl⟩
theorem h61 : Has 61 g61 := ⟨Try.f61, Try.func61, by kernel_rfl, by kernel_rfl⟩
theorem h62 : Has 62 g62 := ⟨Try.f62, Try.func62, by kernel_rfl, by kernel_rfl⟩
theorem h63 : Has 63 g63 := ⟨Try.f63, Try.func63, by kernel_rfl, by kernel_rfl⟩
theorem h64 : Has 64 g64 := ⟨Try.f64, Try.func64, by kernel_rfl, by kernel_rfl⟩
theorem h65 : Has 65 g65 := ⟨Try.f65, Try.func65, by kernel_rfl, by kernel_rfl⟩
theorem h66 : Has 66 g66 := ⟨Try.f66, Try.func66, by kernel_rfl, by kernel_rfl⟩
theorem h67 : Has 67 g67 := ⟨Try.f67, Try.func67, by kernel_rfl, by kernel_rfl⟩
theorem h68 : Has 68 g68 := ⟨Try.f68, Try.func68, by kernel_rfl, by kernel_rfl⟩
theorem h70 : Has 70 g70 := ⟨Try.f70, Try.func70, by kernel_rfl, by kernel_rfl⟩
theorem h71 : Has 71 g71 := ⟨Try.f71, Try.func71, by kernel_rfl, by kernel_rfl⟩
theorem h72 : Has 72 g72 := ⟨Try.f72, Try.func72, by kernel_rfl, by kernel_rfl⟩
theorem h73 : Has 73 g73 := ⟨Try.f73, Try.func73, by kernel_rfl, by kernel_rfl⟩
theorem h74 : Has 74 g74 := ⟨Try.f74, Try.func74, by kernel_rfl, by kernel_rfl⟩
theorem h75 : Has 75 g75 := ⟨Try.f75, Try.func75, by kernel_rfl, by kernel_rfl⟩
theorem h76 : Has 76 g76 := ⟨Try.f76, Try.func76, by kernel_rfl, by kernel_rfl⟩
theorem h77 : Has 77 g77 := ⟨Try.f77, Try.func77, by kernel_rfl, by kernel_rfl⟩
theorem h78 : Has 78 g78 := ⟨Try.f78, Try.func78, by kernel_rfl, by kernel_rfl⟩
theorem h79 : Has 79 g79 := ⟨Try.f79, Try.func79, by kernel_rfl, by kernel_rfl⟩
theorem h80 : Has 80 g80 := ⟨Try.f80, Try.func80, by kernel_rfl, by kernel_rfl⟩
theorem h81 : Has 81 g81 := ⟨Try.f81, Try.func81, by kernel_rfl, by kernel_rfl⟩
theorem h84 : Has 84 g84 := ⟨Try.f84, Try.func84, by kernel_rfl, by kernel_rfl⟩
theorem h85 : Has 85 g85 := ⟨Try.f85, Try.func85, by kernel_rfl, by kernel_rfl⟩
theorem h86 : Has 86 g86 := ⟨Try.f86, Try.func86, by kernel_rfl, by kernel_rfl⟩
theorem h87 : Has 87 g87 := ⟨Try.f87, Try.func87, by kernel_rfl, by kernel_rfl⟩
theorem h88 : Has 88 g88 := ⟨Try.f88, Try.func88, by kernel_rfl, by kernel_rfl⟩
theorem h90 : Has 90 g90 := ⟨Try.f90, Try.func90, by kernel_rfl, by kernel_rfl⟩
theorem tabOf1 : ∀ f fn, T.fn f = some fn → ∃ F, Try.prog.funcs[f]? = some F ∧ cFunc Try.prog (Go.Q.ownB T) F = some fn ∧ (F.name == "runtime.NumGoroutine") = false := by
 intro f fn h
 simp only [T] at h
 unfold fnOf at h
 split at h
 all_goals first | (cases h; done) | skip
 all_goals (simp only [Option.some.injEq] at h; subst h)
 ·exact h5
 ·exact h8
 ·exact h9
 ·exact h14
 ·exact h15
 ·exact h21
 ·exact h22
 ·exact h25
 ·exact h26
 ·exact h27
 ·exact h32
 ·exact h33
 ·exact h37
 ·exact h38
 ·exact h39
 ·exact h40
 ·exact h41
 ·exact h42
 ·exact h43
 ·exact h46
 ·exact h47
 ·exact h48
 ·exact h49
 ·exact h52
 ·exact h53
 ·exact h54
 ·exact h55
 ·exact h59
 ·exact h60
 ·exact h61
 ·exact h62
 ·exact h63
 ·exact h64
 ·exact h65
 ·exact h66
 ·exact h67
 ·exact h68
 ·exact h70
 ·exact h71
 ·exact h72
 ·exact h73
 ·exact h74
 ·exact h75
 ·exact h76
 ·exact h77
 ·exact h78
 ·exact h79
 ·exact h80
 ·exact h81
 ·exact h84
 ·exact h85
 ·exact h86
 ·exact h87
 ·exact h88
 ·exact h90
theorem tabOf2 : ∀ f p, T.prim f = some p → Ent Try.prog f ∧ PrimOk Try.prog f p ∧ PrimSays p := by
 intro f p h
 simp only [T] at h
 unfold primOf at h
 split at h
 all_goals first | (cases h; done) | skip
 all_goals (simp only [Option.some.injEq] at h; subst h)
 ·exact ⟨⟨Try.f69, Try.func69, by kernel_rfl, by kernel_rfl⟩, S16.ins_ok, ins_says _ _⟩
 ·exact ⟨⟨Try.f56, Try.func56, by kernel_rfl, by kernel_rfl⟩, S16.del_ok, del_says _ _⟩
theorem tabOf : TabOf Try.prog T := ⟨tabOf1, tabOf2⟩
theorem mixed : Try.prog.follows .mixedOrders = true := by kernel_rfl
end Go.Q.SW
end
