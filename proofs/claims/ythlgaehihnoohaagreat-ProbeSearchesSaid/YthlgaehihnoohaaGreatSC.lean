/- Masks that meet; where a slot is, by the document. -/
import Derived.Test.YthlgaehihnoohaaGreatSB
set_option linter.unusedVariables false
set_option linter.unusedSimpArgs false
set_option linter.unusedSectionVars false
set_option linter.defProp false
section
namespace Go.Q.SY
open Go.Q
theorem tb_and (a b : Nat × Nat) (j : Nat) : tb (andM a b).1 (andM a b).2 j = (tb a.1 a.2 j && tb b.1 b.2 j) := by
 unfold tb andM
 split <;> simp
theorem tb_or (a b : Nat × Nat) (j : Nat) : tb (orMM a b).1 (orMM a b).2 j = (tb a.1 a.2 j || tb b.1 b.2 j) := by
 unfold tb orMM
 split <;> simp
theorem tb_ors (L : List (Nat × Nat)) (j : Nat) : ∀ a, tb (L.foldl orMM a).1 (L.foldl orMM a).2 j = (tb a.1 a.2 j || L.any fun x => tb x.1 x.2 j) := by
 induction L with
 | nil => intro a; simp
 | cons x L ih => intro a; rw [List.foldl_cons, ih, tb_or, List.any_cons, Bool.or_assoc]
theorem tb_all : ∀ j < 128, tb allM.1 allM.2 j = decide (j < 96) := by decide +kernel
theorem tb_ne {c : Nat × Nat} (h : WM c) : c ≠ (0, 0) ↔ ∃ j, j < 128 ∧ tb c.1 c.2 j = true := by
 constructor
 ·intro hne
  by_cases h1 : c.1 = 0
  ·have h2 : c.2 ≠ 0 := fun e => hne (Prod.ext h1 e)
   obtain ⟨i, hi⟩ := Nat.exists_testBit_of_ne_zero h2
   have hl : i < 64 := by
    rcases Nat.lt_or_ge i 64 with h | h'
    ·exact h
    ·rw [Nat.testBit_lt_two_pow (Nat.lt_of_lt_of_le (show c.2 < 2 ^ 64 from h.2) (Nat.pow_le_pow_right (by decide) h'))] at hi
     cases hi
   exact ⟨i + 64, by omega, by unfold tb; rw [if_neg (by omega), Nat.add_sub_cancel]; exact hi⟩
  ·obtain ⟨i, hi⟩ := Nat.exists_testBit_of_ne_zero h1
   have hl : i < 64 := by
    rcases Nat.lt_or_ge i 64 with h | h'
    ·exact h
    ·rw [Nat.testBit_lt_two_pow (Nat.lt_of_lt_of_le (show c.1 < 2 ^ 64 from h.1) (Nat.pow_le_pow_right (by decide) h'))] at hi
     cases hi
   exact ⟨i, by omega, by unfold tb; rw [if_pos hl]; exact hi⟩
 ·rintro ⟨j, hj, ht⟩ e
  rw [e] at ht
  unfold tb at ht
  split at ht <;> simp at ht
theorem met_pos {m : Nat × Nat} {L : List (Nat × Nat)} : 0 < cntM (metM L m) ↔ ∃ s, s < 96 ∧ tb m.1 m.2 s = true ∧ ∃ x ∈ L, tb x.1 x.2 s = true := by
 have hM : WM (metM L m) := WM_and (WM_and WM_all)
 rw [cntM_pos hM, tb_ne (WM_and hM)]
 have key : ∀ j, j < 128 → (tb (andM (metM L m) allM).1 (andM (metM L m) allM).2 j = true ↔ j < 96 ∧ tb m.1 m.2 j = true ∧ ∃ x ∈ L, tb x.1 x.2 j = true) := by
  intro j hj
  unfold metM
  rw [tb_and, tb_and, tb_and, tb_and, tb_ors, tb_all j hj]
  have h0 : tb (0, 0).1 (0, 0).2 j = false := by simp [tb]
  rw [h0, Bool.false_or]
  simp only [Bool.and_eq_true, decide_eq_true_eq, List.any_eq_true]
  constructor
  ·rintro ⟨⟨⟨h1, h2⟩, h3, -⟩, -⟩
   exact ⟨h1, h2, h3⟩
  ·rintro ⟨h1, h2, h3⟩
   exact ⟨⟨⟨h1, h2⟩, h3, h1⟩, h1⟩
 constructor
 ·rintro ⟨j, hj, h⟩
  obtain ⟨h1, h2⟩ := (key j hj).1 h
  exact ⟨j, h1, h2⟩
 ·rintro ⟨j, h1, h2⟩
  exact ⟨j, by omega, (key j (by omega)).2 ⟨h1, h2⟩⟩
def whr (ms : List (Nat × Nat)) (s : Nat) : Int := idxF (fun m => tb m.1 m.2 s) ms
theorem r32 (c : Option (List Vc)) (ms : Option (List (Nat × Nat))) (s : Nat) (hs : s < 96) (hml : (lst ms).length < 4611686018427387904) (hm : ∀ m ∈ lst ms, WM m) : res T 32 [.agg [slV 1 vecV c, slV 2 mV ms], .int .i64 (s : Int)] = some (.int .i64 (whr (lst ms) s)) := by
 refine run_res (run_pure (fn := g32) rfl rfl (by decide) ?_)
 simp only [g32, b32, zO, zN, zM, zL, zG, zP, zQ, zI, zA, zT, zF, zB, zC, zD, zE, zH, zJ, zK]
 simp +contextual -implicitDefEqProofs (maxSteps := 2000000) only [↓wP, wS, seval]
 refine WC_loopI 0 (fun (j : Nat) env σ n => j ≤ (lst ms).length ∧ env 1 = .int .i64 (s : Int) ∧ env 2 = .ptr 0 2 0 0 ∧ env 5 = .int .i64 (j : Int) ∧ σ 0 = some (.row 2 [.agg [slV 1 vecV c, slV 2 mV ms]]) ∧ ∀ i, i < j → ∀ h : i < (lst ms).length, tb (lst ms)[i].1 (lst ms)[i].2 s = false) (fun j => (lst ms).length - j) ?_ 0 _ _ _ ⟨Nat.zero_le _, rfl, rfl, rfl, rfl, fun i hi => absurd hi (by omega)⟩
 intro j env σ n ⟨hj, g1, g2, g3, g4, g5⟩
 by_cases hlt : j < (lst ms).length
 ·have hd : decide ((j : Int) < ((lst ms).length : Int)) = true := decide_eq_true (by omega)
  have hx : (lst ms)[j]? = some (lst ms)[j] := List.getElem?_eq_getElem hlt
  have f := f65 _ s (hm _ (List.getElem_mem hlt)) hs
  have hw1 : IntKind.i64.wrap ((j : Int) + 1) = ((j + 1 : Nat) : Int) := by rw [wrap_i64] <;> omega
  have hres : tb (lst ms)[j].1 (lst ms)[j].2 s = true → whr (lst ms) s = (j : Int) := by
   intro ht
   unfold whr idxF
   have : (lst ms).findIdx? (fun m => tb m.1 m.2 s) = some j := List.findIdx?_eq_some_iff_getElem.2 ⟨hlt, ht, fun i hi => by rw [g5 i hi (by omega)]; decide⟩
   rw [this]
  have hnext : tb (lst ms)[j].1 (lst ms)[j].2 s = false → ∀ i, i < j + 1 → ∀ h : i < (lst ms).length, tb (lst ms)[i].1 (lst ms)[i].2 s = false := by
   intro ht i hi h
   by_cases e : i = j
   ·subst e; exact ht
   ·exact g5 i (by omega) h
  generalize (lst ms)[j] = m at *
  rw [mV_eq] at f
  cases ht : tb m.1 m.2 s
  ·rw [ht] at f
   simp +contextual -implicitDefEqProofs (maxSteps := 2000000) only [↓wP, wS, seval, g1, g2, g3, g4, hd, hx, mV_eq, f, hw1]
   exact ⟨j + 1, by omega, by omega, rfl, hnext ht⟩
  ·rw [ht] at f
   simp +contextual -implicitDefEqProofs (maxSteps := 2000000) only [↓wP, wS, seval, g1, g2, g3, g4, hd, hx, mV_eq, f]
   rw [hres ht]
 ·have hd : decide ((j : Int) < ((lst ms).length : Int)) = false := decide_eq_false (by omega)
  have hres : whr (lst ms) s = -1 := by
   unfold whr idxF
   have : (lst ms).findIdx? (fun m => tb m.1 m.2 s) = none := by
    rw [List.findIdx?_eq_none_iff]
    intro x hx
    obtain ⟨i, hi, rfl⟩ := List.mem_iff_getElem.1 hx
    exact g5 i (by omega) hi
   rw [this]
  simp +contextual -implicitDefEqProofs (maxSteps := 2000000) only [↓wP, wS, seval, g1, g2, g3, g4, hd]
  rw [hres]
end Go.Q.SY
end

section
/- Which lists may be, by the document. -/
namespace Go.Q.SY
open Go.Q
def bothB (a b : Nat × Nat) (s : Nat) : Bool := tb a.1 a.2 s && tb b.1 b.2 s
theorem one1_iff {ms : List (Nat × Nat)} {i : Nat} {m : Nat × Nat} : one1 ms i m = true ↔ m.2 < 4294967296 ∧ ∀ x ∈ ms.take i, ∀ s, s < 96 → bothB m x s = false := by
 unfold one1
 rw [Bool.and_eq_true, decide_eq_true_eq, Bool.not_eq_true', decide_eq_false_iff_not, met_pos]
 refine and_congr_right fun _ => ?_
 constructor
 ·intro h x hx s hs
  unfold bothB
  cases h1 : tb m.1 m.2 s
  ·rfl
  ·cases h2 : tb x.1 x.2 s
   ·rfl
   ·exact absurd ⟨s, hs, h1, x, hx, h2⟩ h
 ·rintro h ⟨s, hs, h1, x, hx, h2⟩
  have := h x hx s hs
  unfold bothB at this
  rw [h1, h2] at this
  cases this
theorem r26 (c : Option (List Vc)) (ms : Option (List (Nat × Nat))) (hl : (lst c).length < 4611686018427387904) (hv : ∀ v ∈ lst c, Sm v) (hml : (lst ms).length < 4611686018427387904) (hm : ∀ m ∈ lst ms, WM m) : res T 26 [.agg [slV 1 vecV c, slV 2 mV ms]] = some (.bool (okLs c (lst ms))) := by
 refine run_res (run_pure (fn := g26) rfl rfl (by decide) ?_)
 simp only [g26, b26, zO, zN, zM, zL, zG, zP, zQ, zI, zA, zT, zF, zB, zC, zD, zE, zH, zJ, zK]
 have f63' := f63 c hl hv
 unfold okLs
 cases hc : cents c
 ·rw [hc] at f63'
  simp +contextual -implicitDefEqProofs (maxSteps := 2000000) only [↓wP, wS, seval, f63']
 rw [hc] at f63'
 rw [Bool.true_and]
 by_cases hln : (lst ms).length = (lst c).length
 rotate_left
 ·have hd : (((lst ms).length : Int) != ((lst c).length : Int)) = true := by simp; omega
  rw [decide_eq_false hln, Bool.false_and]
  simp +contextual -implicitDefEqProofs (maxSteps := 2000000) only [↓wP, wS, seval, f63', hd]
 have hd : (((lst ms).length : Int) != ((lst c).length : Int)) = false := by simp [hln]
 rw [decide_eq_true hln, Bool.true_and]
 simp +contextual -implicitDefEqProofs (maxSteps := 2000000) only [↓wP, wS, seval, f63', hd]
 refine WC_loopI 0 (fun (i : Nat) env σ n => i ≤ (lst ms).length ∧ env 1 = .ptr 0 2 0 0 ∧ env 3 = .int .i64 (i : Int) ∧ σ 0 = some (.row 2 [.agg [slV 1 vecV c, slV 2 mV ms]]) ∧ mskU (lst ms) i = true) (fun i => (lst ms).length - i) ?_ 0 _ _ _ ⟨Nat.zero_le _, rfl, rfl, rfl, rfl⟩
 intro i env σ n ⟨hi, g1, g2, g3, g4⟩
 by_cases hlt : i < (lst ms).length
 rotate_left
 ·have hd : decide ((i : Int) < ((lst ms).length : Int)) = false := decide_eq_false (by omega)
  have : i = (lst ms).length := by omega
  subst this
  simp +contextual -implicitDefEqProofs (maxSteps := 2000000) only [↓wP, wS, seval, g1, g2, g3, hd]
  rw [g4]
 have hd : decide ((i : Int) < ((lst ms).length : Int)) = true := decide_eq_true (by omega)
 have hx : (lst ms)[i]? = some (lst ms)[i] := List.getElem?_eq_getElem hlt
 have hwi := hm _ (List.getElem_mem hlt)
 have f64' := f64 _ hwi
 have hw1 : IntKind.i64.wrap ((i : Int) + 1) = ((i + 1 : Nat) : Int) := by rw [wrap_i64] <;> omega
 have hst := mskU_step hlt
 rw [g4, Bool.true_and] at hst
 have hno : one1 (lst ms) i (lst ms)[i] = false → mskU (lst ms) (lst ms).length = false := fun hk => mskU_no (by rw [hst, hk]) _ (by omega)
 have hone := one1_iff (ms := lst ms) (i := i) (m := (lst ms)[i])
 generalize (lst ms)[i] = m at *
 rw [mV_eq] at f64'
 by_cases hb : m.2 < 4294967296
 rotate_left
 ·rw [decide_eq_false hb] at f64'
  have hk : one1 (lst ms) i m = false := by
   cases h : one1 (lst ms) i m
   ·rfl
   ·exact absurd (hone.1 h).1 hb
  simp +contextual -implicitDefEqProofs (maxSteps := 2000000) only [↓wP, wS, seval, g1, g2, g3, hd, hx, mV_eq, f64']
  rw [hno hk]
 rw [decide_eq_true hb] at f64'
 simp +contextual -implicitDefEqProofs (maxSteps := 2000000) only [↓wP, wS, seval, g1, g2, g3, hd, hx, mV_eq, f64']
 refine WC_loopI 0 (fun (k : Nat) env σ n => k ≤ i ∧ env 1 = .ptr 0 2 0 0 ∧ env 3 = .int .i64 (i : Int) ∧ env 4 = .int .i64 (k : Int) ∧ σ 0 = some (.row 2 [.agg [slV 1 vecV c, slV 2 mV ms]]) ∧ ∀ a, a < k → ∀ h : a < (lst ms).length, ∀ s, s < 96 → bothB m (lst ms)[a] s = false) (fun k => i - k) ?_ 0 _ _ _ ⟨Nat.zero_le _, g1, g2, rfl, g3, fun a ha => absurd ha (by omega)⟩
 intro k env σ n ⟨hk, g1, g2, g3, g4, g5⟩
 by_cases hki : k < i
 rotate_left
 ·have hd : decide ((k : Int) < (i : Int)) = false := decide_eq_false (by omega)
  have hok : one1 (lst ms) i m = true := hone.2 ⟨hb, fun x hx s hs => by
   obtain ⟨a, ha, rfl⟩ := List.mem_iff_getElem.1 hx
   rw [List.length_take] at ha
   rw [List.getElem_take]
   exact g5 a (by omega) (by omega) s hs⟩
  simp +contextual -implicitDefEqProofs (maxSteps := 2000000) only [↓wP, wS, seval, g1, g2, g3, g4, hd, hw1]
  exact ⟨i + 1, by omega, by omega, rfl, by rw [hst, hok]⟩
 have hd : decide ((k : Int) < (i : Int)) = true := decide_eq_true (by omega)
 have hxk : (lst ms)[k]? = some (lst ms)[k] := List.getElem?_eq_getElem (by omega)
 have hwk := hm _ (List.getElem_mem (show k < (lst ms).length by omega))
 have hw2 : IntKind.i64.wrap ((k : Int) + 1) = ((k + 1 : Nat) : Int) := by rw [wrap_i64] <;> omega
 simp +contextual -implicitDefEqProofs (maxSteps := 2000000) only [↓wP, wS, seval, g1, g2, g3, g4, hd]
 refine WC_loopI 0 (fun (s : Nat) env σ n => s ≤ 96 ∧ env 1 = .ptr 0 2 0 0 ∧ env 3 = .int .i64 (i : Int) ∧ env 4 = .int .i64 (k : Int) ∧ env 5 = .int .i64 (s : Int) ∧ σ 0 = some (.row 2 [.agg [slV 1 vecV c, slV 2 mV ms]]) ∧ ∀ t, t < s → bothB m ((lst ms)[k]'(by omega)) t = false) (fun s => 96 - s) ?_ 0 _ _ _ ⟨Nat.zero_le _, g1, g2, g3, rfl, g4, fun t ht => absurd ht (by omega)⟩
 intro s env σ n ⟨hs, j1, j2, j3, j4, j5, j6⟩
 by_cases hs96 : s < 96
 rotate_left
 ·have hd : decide ((s : Int) < 96) = false := decide_eq_false (by omega)
  simp +contextual -implicitDefEqProofs (maxSteps := 2000000) only [↓wP, wS, seval, j1, j2, j3, j4, j5, hd, hw2]
  refine ⟨k + 1, by omega, by omega, rfl, fun a ha h t ht => ?_⟩
  by_cases e : a = k
  ·subst e; exact j6 t (by omega)
  ·exact g5 a (by omega) h t ht
 have hd : decide ((s : Int) < 96) = true := decide_eq_true (by omega)
 have fa := f65 m s hwi hs96
 have fb := f65 _ s hwk hs96
 have hw3 : IntKind.i64.wrap ((s : Int) + 1) = ((s + 1 : Nat) : Int) := by rw [wrap_i64] <;> omega
 have hfound : bothB m ((lst ms)[k]'(by omega)) s = true → one1 (lst ms) i m = false := by
  intro hb
  cases h : one1 (lst ms) i m
  ·rfl
  ·have := (hone.1 h).2 ((lst ms)[k]'(by omega)) (List.mem_iff_getElem.2 ⟨k, by rw [List.length_take]; omega, by rw [List.getElem_take]⟩) s hs96
   rw [this] at hb; cases hb
 have hnext : bothB m ((lst ms)[k]'(by omega)) s = false → ∀ t, t < s + 1 → bothB m ((lst ms)[k]'(by omega)) t = false := by
  intro hb t ht
  by_cases e : t = s
  ·subst e; exact hb
  ·exact j6 t (by omega)
 unfold bothB at hfound hnext
 rw [mV_eq] at fa fb
 have hex : ∃ x, (lst ms)[k]? = some x ∧ x = (lst ms)[k]'(by omega) := ⟨_, hxk, rfl⟩
 cases h1 : tb m.1 m.2 s
 ·rw [h1] at fa
  have hn := hnext (by rw [h1]; rfl)
  simp +contextual -implicitDefEqProofs (maxSteps := 2000000) only [↓wP, wS, seval, j1, j2, j3, j4, j5, hd, hx, hxk, mV_eq, fa, hw3]
  exact ⟨s + 1, by omega, by omega, rfl, fun t ht => hn t ht⟩
 ·rw [h1] at fa
  cases h2 : tb ((lst ms)[k]'(by omega)).1 ((lst ms)[k]'(by omega)).2 s
  ·rw [h2] at fb
   have hn := hnext (by rw [h1, h2]; rfl)
   simp +contextual -implicitDefEqProofs (maxSteps := 2000000) only [↓wP, wS, seval, j1, j2, j3, j4, j5, hd, hx, hxk, mV_eq, fa, fb, hw3]
   exact ⟨s + 1, by omega, by omega, rfl, fun t ht => hn t ht⟩
  ·rw [h2] at fb
   have hk0 := hno (hfound (by rw [h1, h2]; rfl))
   simp +contextual -implicitDefEqProofs (maxSteps := 2000000) only [↓wP, wS, seval, j1, j2, j3, j4, j5, hd, hx, hxk, mV_eq, fa, fb]
   rw [hk0]
end Go.Q.SY
end

section
/- The slots of some lists. -/
namespace Go.Q.SY
open Go.Q
def selM (ms : List (Nat × Nat)) (ix : List Nat) : List (Nat × Nat) := ix.map fun i => ms.getD i (0, 0)
theorem m_fz {l : List (Nat × Nat)} : (∀ x ∈ l.map mV, Tr 11 x = true) ∧ (∀ x ∈ l.map mV, ∀ c ∈ x.cells, Tr 11 c = true) :=
 ⟨fun x hx => by obtain ⟨y, -, rfl⟩ := List.mem_map.1 hx; rfl, fun x hx c hc => by
  obtain ⟨y, -, rfl⟩ := List.mem_map.1 hx
  simp only [mV, V.cells, List.mem_cons, List.not_mem_nil, or_false] at hc
  rcases hc with rfl | rfl <;> rfl⟩
theorem sel_wm {ms : List (Nat × Nat)} (hm : ∀ m ∈ ms, WM m) (ix : List Nat) : ∀ m ∈ selM ms ix, WM m := by
 intro m hmm
 obtain ⟨i, -, rfl⟩ := List.mem_map.1 hmm
 rw [List.getD_eq_getElem?_getD]
 cases h : ms[i]? with
 | none => exact ⟨by show W64 0; unfold W64; omega, by show W64 0; unfold W64; omega⟩
 | some x => exact hm x (List.mem_of_getElem? h)
theorem f20 (c : Option (List Vc)) (ms : Option (List (Nat × Nat))) (hl : (lst c).length < 9223372036854775808) (hv : ∀ v ∈ lst c, Sm v) (hml : (lst ms).length < 4611686018427387904) (hm : ∀ m ∈ lst ms, WM m) (fs : Bool) (σ : Sto) (n lk : Nat) :
 callE T fs 20 [.agg [slV 1 vecV c, slV 2 mV ms]] σ n lk = some (.int .i64 (if okLs c (lst ms) = true then 0 else 230), σ, n) := callE_tr (by decide) (r20 c ms hl hv hml hm) (by simp [Tr, Tr_slV]) rfl fs σ n lk
theorem f26 (c : Option (List Vc)) (ms : Option (List (Nat × Nat))) (hl : (lst c).length < 4611686018427387904) (hv : ∀ v ∈ lst c, Sm v) (hml : (lst ms).length < 4611686018427387904) (hm : ∀ m ∈ lst ms, WM m) (fs : Bool) (σ : Sto) (n lk : Nat) :
 callE T fs 26 [.agg [slV 1 vecV c, slV 2 mV ms]] σ n lk = some (.bool (okLs c (lst ms)), σ, n) := callE_tr (by decide) (r26 c ms hl hv hml hm) (by simp [Tr, Tr_slV]) rfl fs σ n lk
theorem f32' (c : Option (List Vc)) (ms : Option (List (Nat × Nat))) (s : Nat) (hs : s < 96) (hml : (lst ms).length < 4611686018427387904) (hm : ∀ m ∈ lst ms, WM m) (fs : Bool) (σ : Sto) (n lk : Nat) :
 callE T fs 32 [.agg [slV 1 vecV c, slV 2 mV ms], .int .i64 (s : Int)] σ n lk = some (.int .i64 (whr (lst ms) s), σ, n) := callE_tr (by decide) (r32 c ms s hs hml hm) (by simp [Tr, Tr_slV]) rfl fs σ n lk
theorem r22 (c : Option (List Vc)) (ms : Option (List (Nat × Nat))) (ix : Option (List Nat)) (hl : (lst c).length < 9223372036854775808) (hv : ∀ v ∈ lst c, Sm v) (hml : (lst ms).length < 4611686018427387904) (hm : ∀ m ∈ lst ms, WM m) (hok : okLs c (lst ms) = true) (hix : (lst ix).length ≤ 100) (hi : ∀ i ∈ lst ix, i < (lst ms).length) : res T 22 [.agg [slV 1 vecV c, slV 2 mV ms], slV 1 nV ix] = some (.tup [mV (andM ((selM (lst ms) (lst ix)).foldl orMM (0, 0)) allM), .int .i64 0]) := by
 refine run_res (run_pure (fn := g22) rfl rfl (by decide) ?_)
 simp only [g22, b22, zO, zN, zM, zL, zG, zP, zQ, zI, zA, zT, zF, zB, zC, zD, zE, zH, zJ, zK]
 have f20' := f20 c ms hl hv hml hm
 rw [hok, if_pos rfl] at f20'
 have z : ((0 : Int) != 0) = false := rfl
 simp +contextual -implicitDefEqProofs (maxSteps := 2000000) only [↓wP, wS, seval, f20', z]
 refine WC_for (lst ix).length 0 (fun (j : Nat) env σ n => env 2 = .ptr 0 2 0 0 ∧ env 4 = .ptr 1 2 0 0 ∧ env 16 = slV 1 nV ix ∧ 2 ≤ n ∧ σ 0 = some (.row 2 [.agg [slV 1 vecV c, slV 2 mV ms]]) ∧ σ 1 = some (.row 2 [.agg [.int .u64 0, .int .u64 0]]) ∧ ∃ v, env 7 = v ∧ Pl σ 2 n 2 v (oL ((selM (lst ms) ((lst ix).take j)).map mV))) (by omega) (by decide) (by decide) (fun _ _ => rfl) (fun _ _ _ => rfl) ?_ ?_ _ _ _ rfl rfl ?_
 ·intro j env σ n hj h1 h2 ⟨g1, g2, g3, g4, g5, g6, v, g7, g8⟩
  simp only [vl_tmp] at h2
  have hx : (lst ix)[j]? = some (lst ix)[j] := List.getElem?_eq_getElem hj
  have hij := hi _ (List.getElem_mem hj)
  have hst : selM (lst ms) ((lst ix).take (j + 1)) = selM (lst ms) ((lst ix).take j) ++ [(lst ms)[(lst ix)[j]]] := by
   unfold selM
   rw [← List.take_append_getElem hj, List.map_append]
   simp [List.getD_eq_getElem?_getD, hij]
  have hlen : (selM (lst ms) ((lst ix).take j)).length ≤ 100 := by unfold selM; rw [List.length_map, List.length_take]; omega
  generalize (lst ix)[j] = i at *
  have hxm : (lst ms)[i]? = some (lst ms)[i] := List.getElem?_eq_getElem hij
  generalize (lst ms)[i] = m at *
  have hc := g8.cells
  have hd1 : decide ((i : Int) < 0) = false := decide_eq_false (by omega)
  have hd2 : decide (((lst ms).length : Int) ≤ (i : Int)) = false := decide_eq_false (by omega)
  simp +contextual -implicitDefEqProofs (maxSteps := 2000000) only [↓wP, wS, seval, h1, h2, g1, g2, g3, g5, g7, hx, nV, hd1, hd2, hxm, mV_eq]
  refine stepW_app1 (m := 2) (n0 := n) (σ0 := σ) g8 (fun i a1 a2 => ?_) (by omega) (by omega) (Nat.zero_le _) ?_ (fun _ σ2 a1 a2 => ?_)
  ·rw [upd_ne (by omega)]
  ·rw [lst_oL, List.length_map]; unfold LIM; omega
  ·rw [lst_oL] at a1 ⊢
   have hvn : ∀ i, i < 2 → ∀ off len s, v ≠ .ref i off len s := by
    intro i hi off len s e
    subst e
    cases ho' : oL ((selM (lst ms) ((lst ix).take j)).map mV) with
    | none => rw [ho'] at g8; cases g8
    | some xs => rw [ho'] at g8; obtain ⟨k, e, -, e2, -⟩ := g8; simp only [V.ref.injEq] at e; omega
   have t0 : σ2 0 = some (.row 2 [.agg [slV 1 vecV c, slV 2 mV ms]]) := by rw [a2 0 (by omega) (hvn 0 (by omega)), upd_ne (by omega)]; exact g5
   have t1 : σ2 1 = some (.row 2 [.agg [.int .u64 0, .int .u64 0]]) := by rw [a2 1 (by omega) (hvn 1 (by omega)), upd_ne (by omega)]; exact g6
   simp +contextual -implicitDefEqProofs (maxSteps := 2000000) only [↓wP, wS, seval, h1, g1, g2, g3]
   refine ⟨h2, t0, t1, _, rfl, ?_⟩
   rw [hst, List.map_append]
   have e2 : oL ((selM (lst ms) ((lst ix).take j)).map mV ++ [mV m]) = some ((selM (lst ms) ((lst ix).take j)).map mV ++ [mV m]) := by
    cases selM (lst ms) ((lst ix).take j) <;> rfl
   simp only [List.map_cons, List.map_nil]
   rw [e2]
   exact a1
 ·intro env σ n ⟨g1, g2, g3, g4, g5, g6, v, g7, g8⟩ h1 h2
  rw [List.take_length] at g8
  have hf := g8.frz (by rw [lst_oL]; exact m_fz.1) (by rw [lst_oL]; exact m_fz.2)
  rw [slV_oL] at hf
  have hm48 : T.mode 48 ≠ .raw := by decide
  have r := r48 (oL (selM (lst ms) (lst ix))) (by rw [lst_oL]; unfold selM; rw [List.length_map]; omega) (by rw [lst_oL]; exact sel_wm hm _)
  rw [lst_oL] at r
  have f48' : callE T true 48 [v] σ n 0 = some (mV (andM ((selM (lst ms) (lst ix)).foldl orMM (0, 0)) allM), σ, n) := by
   rw [callE_eq hm48]
   simp only [List.mapM_cons, List.mapM_nil, hf]
   show callR T true 48 (some [slV 2 mV (oL (selM (lst ms) (lst ix)))]) _ σ n 0 = _
   rw [callR_some, r, retE_some, backE_flat rfl]; rfl
  rw [mV_eq] at f48'
  simp +contextual -implicitDefEqProofs (maxSteps := 2000000) only [↓wP, wS, seval, g2, g6, g7, f48', mV_eq]
 ·exact ⟨rfl, rfl, rfl, by omega, rfl, rfl, _, rfl, by simp only [selM, List.take_zero, List.map_nil]; rfl⟩
end Go.Q.SY
end

section
/- Lists that may be are apart: the place of a slot is the only one. -/
namespace Go.Q.SY
open Go.Q
theorem mskU_all {ms : List (Nat × Nat)} (h : mskU ms ms.length = true) : ∀ i (hi : i < ms.length), one1 ms i ms[i] = true := by
 intro i hi
 cases hk : mskU ms (i + 1)
 ·have := mskU_no hk ms.length (by omega)
  rw [this] at h; cases h
 ·rw [mskU_step hi, Bool.and_eq_true] at hk
  exact hk.2
theorem apart {ms : List (Nat × Nat)} (h : mskU ms ms.length = true) {i k s : Nat} (hki : k < i) (hi : i < ms.length) (hs : s < 96) : bothB ms[i] (ms[k]'(by omega)) s = false :=
 (one1_iff.1 (mskU_all h i hi)).2 _ (List.mem_iff_getElem.2 ⟨k, by rw [List.length_take]; omega, by rw [List.getElem_take]⟩) s hs
theorem whr_eq {ms : List (Nat × Nat)} (h : mskU ms ms.length = true) {i s : Nat} (hi : i < ms.length) (hs : s < 96) (ht : tb ms[i].1 ms[i].2 s = true) : whr ms s = (i : Int) := by
 unfold whr idxF
 have : ms.findIdx? (fun m => tb m.1 m.2 s) = some i := List.findIdx?_eq_some_iff_getElem.2 ⟨hi, ht, fun k hk => by
  have := apart h hk hi hs
  unfold bothB at this
  rw [ht, Bool.true_and] at this
  rw [this]; decide⟩
 rw [this]
theorem whr_some {ms : List (Nat × Nat)} {i s : Nat} (h : whr ms s = (i : Int)) : ∃ hi : i < ms.length, tb ms[i].1 ms[i].2 s = true := by
 unfold whr idxF at h
 cases hf : ms.findIdx? (fun m => tb m.1 m.2 s) with
 | none => rw [hf] at h; simp only at h; omega
 | some k =>
   rw [hf] at h
   obtain ⟨g1, g2, -⟩ := List.findIdx?_eq_some_iff_getElem.1 hf
   have : k = i := by simp only at h; omega
   subst this
   exact ⟨g1, g2⟩
theorem near_iff {ms : List (Nat × Nat)} (h : mskU ms ms.length = true) {s : Nat} (hs : s < 96) {ix : List Nat} (hix : ∀ i ∈ ix, i < ms.length) :
 ((selM ms ix).any fun m => tb m.1 m.2 s) = decide (∃ i ∈ ix, whr ms s = (i : Int)) := by
 rw [Bool.eq_iff_iff, decide_eq_true_eq, List.any_eq_true]
 constructor
 ·rintro ⟨m, hm, ht⟩
  obtain ⟨i, hi, rfl⟩ := List.mem_map.1 hm
  have hl := hix i hi
  have e : ms.getD i (0, 0) = ms[i] := by simp [List.getD_eq_getElem?_getD, hl]
  rw [e] at ht
  exact ⟨i, hi, whr_eq h hl hs ht⟩
 ·rintro ⟨i, hi, hw⟩
  obtain ⟨hl, ht⟩ := whr_some hw
  refine ⟨ms[i], List.mem_map.2 ⟨i, hi, by simp [List.getD_eq_getElem?_getD, hl]⟩, ht⟩
def scnM (ms : List (Nat × Nat)) (ix : List Nat) (v : Nat × Nat) : Nat × Nat := andM (andM allM (andM ((selM ms ix).foldl orMM (0, 0)) allM)) v
theorem scn_tb {ms : List (Nat × Nat)} (h : mskU ms ms.length = true) {s : Nat} (hs : s < 96) {ix : List Nat} (hix : ∀ i ∈ ix, i < ms.length) (v : Nat × Nat) :
 tb (scnM ms ix v).1 (scnM ms ix v).2 s = (decide (∃ i ∈ ix, whr ms s = (i : Int)) && tb v.1 v.2 s) := by
 unfold scnM
 rw [tb_and, tb_and, tb_and, tb_ors, tb_all s (by omega), decide_eq_true hs, near_iff h hs hix]
 have h0 : tb (0, 0).1 (0, 0).2 s = false := by simp [tb]
 rw [h0]
 simp
end Go.Q.SY
end

section
/- The document's order. -/
namespace Go.Q.SY
open Go.Q Go.Sort
open Nat renaming reduceEqDiff → n1w, reduceAdd → n2w, reduceSub → n3w, reduceLeDiff → n4w, reduceLT → n5w, reduceMul → n6w
open Int renaming reduceBNe → i1w, reduceBEq → i2w, reduceLT → i3w, reduceLE → i4w, reduceGT → i5w
def oH (l : List Hit) : Option (List V) := if l = [] then none else some (hs l)
def optH (l : List Hit) : Option (List Hit) := if l = [] then none else some l
theorem lst_optH (l : List Hit) : lst (optH l) = l := by
 unfold optH; split
 ·rename_i h; rw [h]; rfl
 ·rfl
theorem lst_oH (l : List Hit) : lst (oH l) = hs l := by
 unfold oH; split
 ·rename_i h; rw [h]; rfl
 ·rfl
theorem oH_slV (l : List Hit) : slV 2 _root_.id (oH l) = slV 2 hitV (optH l) := by
 unfold oH optH; split <;> simp [slV, hs]
theorem plLen {σ : Sto} {m n : Nat} {v : V} {l : List Hit} (h : Pl σ m n 2 v (oH l)) : lenE v = some (.int .i64 (l.length : Int)) := by
 unfold oH at h
 split at h
 ·rename_i e; rw [e]; simp only [Pl] at h; rw [h, lenE_nil]; rfl
 ·obtain ⟨i, rfl, -⟩ := h
  rw [lenE_ref, hs_len]
theorem plRefs {σ : Sto} {m n : Nat} {v : V} {l : List Hit} (h : Pl σ m n 2 v (oH l)) (hl : l ≠ []) : ∃ i, v = .ref i 0 l.length 2 ∧ σ i = some (.row 2 (hs l)) ∧ m ≤ i ∧ i < n := by
 unfold oH at h
 rw [if_neg hl] at h
 obtain ⟨i, rfl, h1⟩ := h
 exact ⟨i, by rw [hs_len], h1⟩
theorem plOf {σ : Sto} {m n i : Nat} {l : List Hit} (hl : l ≠ []) (h1 : σ i = some (.row 2 (hs l))) (h2 : m ≤ i) (h3 : i < n) : Pl σ m n 2 (.ref i 0 l.length 2) (oH l) := by
 unfold oH
 rw [if_neg hl]
 exact ⟨i, by rw [hs_len], h1, h2, h3⟩
theorem tr_hs (k : Nat) (l : List Hit) : (∀ x ∈ hs l, Tr (k + 2) x = true) ∧ ∀ x ∈ hs l, ∀ c ∈ x.cells, Tr (k + 1) c = true := by
 constructor
 ·intro x hx
  obtain ⟨y, -, rfl⟩ := List.mem_map.1 hx
  rfl
 ·intro x hx c hc
  obtain ⟨y, -, rfl⟩ := List.mem_map.1 hx
  simp only [hitV, V.cells, List.mem_cons, List.not_mem_nil, or_false] at hc
  rcases hc with rfl | rfl <;> rfl
theorem plHf {σ : Sto} {m n : Nat} {v : V} {l : List Hit} (h : Pl σ m n 2 v (oH l)) : frz σ 12 v = some (slV 2 hitV (optH l)) := by
 rw [Go.Q.Pl.frz h (by rw [lst_oH]; exact (tr_hs 9 l).1) (by rw [lst_oH]; exact (tr_hs 10 l).2), oH_slV]
theorem hs_set (l : List Hit) (i : Nat) (x : Hit) : (hs l).set i (.agg [.int .u64 x.id, .int .u64 x.d]) = hs (l.set i x) := by simp [hs, List.map_set, hitV]
theorem hs_set_at {l : List Hit} {i j : Nat} {x : Hit} (hj : j < l.length) : ∃ u w : Int, ((hs l).set i (.agg [.int .u64 x.id, .int .u64 x.d]))[j]? = some (.agg [.int .u64 u, .int .u64 w]) := by
 rw [hs_set, hs_get (by simpa using hj)]
 exact ⟨_, _, rfl⟩
def merE (k : Int) (l : List Hit) : Int := if k < 1 ∨ 16 < k then 2 else if 2000 < l.length then 3 else 0
def merV (k : Int) (l : List Hit) : List Hit := if merE k l = 0 then fst' k.toNat l else []
def hVal (n : Nat) (l : List Hit) : V := if l = [] then .nilS else .ref n 0 l.length 2
def hSto (σ : Sto) (n : Nat) (l : List Hit) : Sto := if l = [] then σ else upd σ n (some (.row 2 (hs l)))
def hN (n : Nat) (l : List Hit) : Nat := if l = [] then n else n + 1
theorem thaw_ownH (σ : Sto) (n : Nat) (l : List Hit) : thaw σ n (ownH l) = (hVal n l, hSto σ n l, hN n l) := by
 cases l with
 | nil => rfl
 | cons x l =>
   unfold hVal hSto hN
   rw [if_neg (by simp), if_neg (by simp), if_neg (by simp)]
   exact thaw_hs σ n (x :: l)
theorem flat_ownH (l : List Hit) : flat (ownH l) = true := by
 cases l with
 | nil => rfl
 | cons x l => exact hs_flat (x :: l)
theorem hSto_at (σ : Sto) (n : Nat) (l : List Hit) {i : Nat} (h : i < n) : hSto σ n l i = σ i := by
 unfold hSto; split
 ·rfl
 ·have : i ≠ n := by omega
  simp [upd, this]
theorem giv_tup2 {σ : Sto} {v w r s : V} (h : giv σ 11 v = some r ∧ (gids σ 11 v).Nodup) (h' : giv σ 11 w = some s) (h'' : gids σ 11 w = []) :
 giv σ 12 (.tup [v, w]) = some (.tup [r, s]) ∧ (gids σ 12 (.tup [v, w])).Nodup := by
 constructor
 ·simp only [giv, List.mapM_cons, List.mapM_nil, h.1, h']; rfl
 ·simp only [gids, List.flatMap_cons, List.flatMap_nil, h'', List.append_nil]; exact h.2
theorem hVal_giv11 (σ : Sto) (n : Nat) (l : List Hit) : giv (hSto σ n l) 11 (hVal n l) = some (ownH l) ∧ (gids (hSto σ n l) 11 (hVal n l)).Nodup := by
 unfold hVal hSto
 by_cases h : l = []
 ·rw [if_pos h, if_pos h, h]; exact ⟨rfl, by simp [gids]⟩
 ·rw [if_neg h, if_neg h, ownH_eq h]
  have hg : ∀ x ∈ hs l, elemM (giv (upd σ n (some (.row 2 (hs l)))) 10) x = some x := by
   intro x hx
   obtain ⟨y, -, rfl⟩ := List.mem_map.1 hx
   rfl
  have hg' : ∀ x ∈ hs l, ∀ c ∈ x.cells, gids (upd σ n (some (.row 2 (hs l)))) 10 c = [] := by
   intro x hx c hc
   obtain ⟨y, -, rfl⟩ := List.mem_map.1 hx
   simp only [hitV, V.cells, List.mem_cons, List.not_mem_nil, or_false] at hc
   rcases hc with rfl | rfl <;> rfl
  have hat : upd σ n (some (.row 2 (hs l))) n = some (.row 2 (hs l)) := by simp [upd]
  constructor
  ·simp only [giv, hat, hs_len, and_self, if_true]
   rw [mapM_id hg]; rfl
  ·simp only [gids, hat]
   rw [List.flatMap_eq_nil_iff.2 fun x hx => List.flatMap_eq_nil_iff.2 fun c hc => hg' x hx c hc]
   simp
theorem sum_mono (l : List (Option (List Hit))) (j : Nat) : ((l.take j).flatMap lst).length ≤ (l.flatMap lst).length := by
 conv => rhs; rw [← List.take_append_drop j l]
 rw [List.flatMap_append, List.length_append]
 omega
theorem r115 (k : Int) (o : Option (List (Option (List Hit)))) (hlo : (lst o).length < 9223372036854775808) (hli : ∀ r ∈ lst o, (lst r).length < 4611686018427387904) :
 res T 115 [.int .i64 k, slV 1 (slV 2 hitV) o] = some (.tup [ownH (merV k ((lst o).flatMap lst)), .int .i64 (merE k ((lst o).flatMap lst))]) := by
 refine run_res (run_own (fn := g115) rfl rfl (by decide) ?_)
 simp only [g115, b115, zO, zN, zM, zL, zG, zP, zQ, zI, zA, zT, zF, zB, zC, zD, zE, zH, zJ, zK]
 by_cases hk1 : k < 1
 ·have e1 : merE k ((lst o).flatMap lst) = 2 := if_pos (.inl hk1)
  have e2 : merV k ((lst o).flatMap lst) = [] := by unfold merV; rw [e1]; rfl
  rw [e1, e2]
  simp +contextual -implicitDefEqProofs (maxSteps := 2000000) only [↓wP, wQ, wQ1, wQ2, wQ3, wR, boxE, partsOf, ↓reduceIte, n1w, n2w, n3w, n4w, n5w, n6w, reduceCtorEq, i1w, i2w, i3w, i4w, i5w, hk1]
  exact ⟨rfl, by simp [gids]⟩
 ·by_cases hk2 : 16 < k
  ·have e1 : merE k ((lst o).flatMap lst) = 2 := if_pos (.inr hk2)
   have e2 : merV k ((lst o).flatMap lst) = [] := by unfold merV; rw [e1]; rfl
   rw [e1, e2]
   simp +contextual -implicitDefEqProofs (maxSteps := 2000000) only [↓wP, wQ, wQ1, wQ2, wQ3, wR, boxE, partsOf, ↓reduceIte, n1w, n2w, n3w, n4w, n5w, n6w, reduceCtorEq, i1w, i2w, i3w, i4w, i5w, hk1, hk2]
   exact ⟨rfl, by simp [gids]⟩
  ·obtain ⟨kn, rfl⟩ : ∃ kn : Nat, k = (kn : Int) := ⟨k.toNat, by omega⟩
   simp +contextual -implicitDefEqProofs (maxSteps := 2000000) only [↓wP, wQ, wQ1, wQ2, wQ3, wR, boxE, partsOf, ↓reduceIte, n1w, n2w, n3w, n4w, n5w, n6w, reduceCtorEq, i1w, i2w, i3w, i4w, i5w, hk1, hk2]
   refine WC_for (lst o).length 0 (fun (j : Nat) env σ n => σ = Sto.empty ∧ n = 0 ∧ env 0 = .int .i64 (kn : Int) ∧ env 1 = slV 1 (slV 2 hitV) o ∧ env 15 = slV 1 (slV 2 hitV) o ∧ env 6 = .int .i64 ((((lst o).take j).flatMap lst).length : Int) ∧ (((lst o).take j).flatMap lst).length ≤ 2000) hlo (by decide) (by decide) (fun _ _ => rfl) (fun _ _ _ => rfl) ?_ ?_ _ _ _ rfl rfl ?_
   ·intro j env σ n hj h1 h2 ⟨g1, g2, h3, h4, h5, h6, h7⟩
    subst g1 g2
    simp only [vl_tmp] at h2
    have hx : (lst o)[j]? = some (lst o)[j] := List.getElem?_eq_getElem hj
    have hr := hli _ (List.getElem_mem hj)
    have ht : ((lst o).take (j + 1)).flatMap lst = ((lst o).take j).flatMap lst ++ lst (lst o)[j] := by
     rw [← List.take_append_getElem hj, List.flatMap_append]
     simp
    have hmono := sum_mono (lst o) (j + 1)
    generalize (lst o)[j] = r at *
    rw [ht, List.length_append] at hmono
    have wa : IntKind.i64.wrap (((((lst o).take j).flatMap lst).length : Int) + ((lst r).length : Int)) = (((((lst o).take j).flatMap lst).length + (lst r).length : Nat) : Int) := by rw [wrap_i64] <;> omega
    by_cases hbig : 2000 < (((lst o).take j).flatMap lst).length + (lst r).length
    ·have hbig' : (2000 : Int) < (((((lst o).take j).flatMap lst).length + (lst r).length : Nat) : Int) := by omega
     have e1 : merE (kn : Int) ((lst o).flatMap lst) = 3 := by
      unfold merE
      rw [if_neg (by omega), if_pos (by omega)]
     have e2 : merV (kn : Int) ((lst o).flatMap lst) = [] := by unfold merV; rw [e1]; rfl
     rw [e1, e2]
     simp +contextual -implicitDefEqProofs (maxSteps := 2000000) only [↓wP, wQ, wQ1, wQ2, wQ3, wR, boxE, partsOf, ↓reduceIte, n1w, n2w, n3w, n4w, n5w, n6w, reduceCtorEq, i1w, i2w, i3w, i4w, i5w, h1, h2, h3, h4, h5, h6, hx, wa, hbig']
     exact ⟨rfl, by simp [gids]⟩
    ·have hbig' : ¬ (2000 : Int) < (((((lst o).take j).flatMap lst).length + (lst r).length : Nat) : Int) := by omega
     simp +contextual -implicitDefEqProofs (maxSteps := 2000000) only [↓wP, wQ, wQ1, wQ2, wQ3, wR, boxE, partsOf, ↓reduceIte, n1w, n2w, n3w, n4w, n5w, n6w, reduceCtorEq, i1w, i2w, i3w, i4w, i5w, h1, h2, h3, h4, h5, h6, hx, wa, hbig']
     rw [ht, List.length_append]
     exact ⟨rfl, by omega⟩
   ·intro env σ n ⟨g1, g2, h3, h4, h5, h6, h7⟩ h1 h2
    subst g1 g2
    rw [List.take_length] at h7
    have e1 : merE (kn : Int) ((lst o).flatMap lst) = 0 := by
     unfold merE
     rw [if_neg (by omega), if_neg (by omega)]
    have e2 : merV (kn : Int) ((lst o).flatMap lst) = fst' kn ((lst o).flatMap lst) := by unfold merV; rw [if_pos e1]; rfl
    have h25 := r130 kn o (by omega) (by omega) hlo (fun r hr => by have := hli r hr; omega)
    rw [e1, e2]
    have e : [V.int .i64 (kn : Int), slV 1 (slV 2 hitV) o].mapM (frz Sto.empty 12) = some [V.int .i64 (kn : Int), slV 1 (slV 2 hitV) o] := by
     simp only [List.mapM_cons, List.mapM_nil, frz_slV, frz_int]; rfl
    generalize fst' kn ((lst o).flatMap lst) = l at *
    have f130 := fun n lk => callE_flat (fs := true) (n := n) (lk := lk) (by decide) e h25 (flat_ownH l)
    simp only [thaw_ownH] at f130
    have hg := hVal_giv11 Sto.empty 0 l
    simp +contextual -implicitDefEqProofs (maxSteps := 2000000) only [↓wP, wQ, wQ1, wQ2, wQ3, wR, boxE, partsOf, ↓reduceIte, n1w, n2w, n3w, n4w, n5w, n6w, reduceCtorEq, i1w, i2w, i3w, i4w, i5w, h3, h4, f130]
    exact giv_tup2 hg rfl rfl
   ·simp +contextual -implicitDefEqProofs (maxSteps := 2000000) only [↓wP, wQ, wQ1, wQ2, wQ3, wR, boxE, partsOf, ↓reduceIte, n1w, n2w, n3w, n4w, n5w, n6w, reduceCtorEq, i1w, i2w, i3w, i4w, i5w]
    simp
end Go.Q.SY
end

section
/- First of a row; selections. -/
namespace Go.Q.SY
open Go.Q Go.Sort
theorem flat_tup2 {a b : V} (h : flat a = true) (h' : flat b = true) : flat (.tup [a, b]) = true := by simp [flat, flatL, h, h']
theorem thaw_hTup (σ : Sto) (n : Nat) (l : List Hit) (e : Int) : thaw σ n (.tup [ownH l, .int .i64 e]) = (.tup [hVal n l, .int .i64 e], hSto σ n l, hN n l) := by
 rw [thaw_tup, thawL_cons, thaw_ownH]
 rfl
theorem merge_one (o : Option (List Hit)) : (lst (some [o])).flatMap lst = lst o := by simp [lst]
theorem r92 (k : Int) (o : Option (List Hit)) (hl : (lst o).length < 4611686018427387904) : res T 92 [slV 2 hitV o, .int .i64 k] = some (.tup [ownH (merV k (lst o)), .int .i64 (merE k (lst o))]) := by
 refine run_res (run_own (fn := g92) rfl rfl (by decide) ?_)
 simp only [g92, b92, zO, zN, zM, zL, zG, zP, zQ, zI, zA, zT, zF, zB, zC, zD, zE, zH, zJ, zK]
 have h16 := r115 k (some [o]) (by simp [lst]) (fun r hr => by simp [lst_some] at hr; subst hr; exact hl)
 rw [merge_one] at h16
 have e : [V.int .i64 k, .ref 0 0 1 1].mapM (frz (upd Sto.empty 0 (some (.row 1 [slV 2 hitV o]))) 12) = some [V.int .i64 k, slV 1 (slV 2 hitV) (some [o])] := by
  have hx : frz (upd Sto.empty 0 (some (.row 1 [slV 2 hitV o]))) 12 (.ref 0 0 1 1) = some (.sl 1 [slV 2 hitV o]) := by
   have := (Fz.ref (σ := upd Sto.empty 0 (some (.row 1 [slV 2 hitV o]))) (id := 0) (sz := 1) (xs := [slV 2 hitV o]) (ts := [slV 2 hitV o]) (k := 11) (S := fun _ => True) (by simp [upd]) trivial
    (FzL.trees (fun x hx => by rw [List.mem_singleton] at hx; subst hx; exact Tr_slV 2 _ o _) (fun x hx c hc => by rw [List.mem_singleton] at hx; subst hx; rw [cl_slV, List.mem_singleton] at hc; subst hc; exact Tr_slV 2 _ o _))).1
   exact this
  simp only [List.mapM_cons, List.mapM_nil, hx, frz_int]
  rfl
 have f115 := fun n lk => callE_flat (fs := true) (n := n) (lk := lk) (by decide) e h16 (flat_tup2 (flat_ownH _) rfl)
 simp only [thaw_hTup] at f115
 have hg := fun σ n => hVal_giv11 σ n (merV k (lst o))
 simp +contextual -implicitDefEqProofs (maxSteps := 2000000) only [↓wP, wS, seval, f115]
 exact giv_tup2 (hg _ _) rfl rfl
theorem f92 {σ : Sto} {v : V} {l : List Hit} (k : Int) (ha : Hf σ v l) (hl : l.length < 4611686018427387904) (fs : Bool) (n lk : Nat) :
 callE T fs 92 [v, .int .i64 k] σ n lk = some (.tup [hVal n (merV k l), .int .i64 (merE k l)], hSto σ n (merV k l), hN n (merV k l)) := by
 obtain ⟨o, rfl, h1⟩ := ha
 have e : [v, V.int .i64 k].mapM (frz σ 12) = some [slV 2 hitV o, .int .i64 k] := by simp only [List.mapM_cons, List.mapM_nil, h1]; rfl
 rw [callE_flat (by decide) e (r92 k o hl) (flat_tup2 (flat_ownH _) rfl), thaw_hTup]
end Go.Q.SY
end

section
/- The document's order, first ones, and which hits are the same. -/
namespace Go.Q.SY
open Go.Q Go.Sort
open Nat renaming reduceEqDiff → n1w, reduceAdd → n2w, reduceSub → n3w, reduceLeDiff → n4w, reduceLT → n5w, reduceMul → n6w
open Int renaming reduceBNe → i1w, reduceBEq → i2w, reduceLT → i3w, reduceLE → i4w, reduceGT → i5w
theorem r117 (a b c d : Int) : res T 117 [.agg [.int .u64 a, .int .u64 b], .agg [.int .u64 c, .int .u64 d]] = some (.bool (ahead ⟨a, b⟩ ⟨c, d⟩)) := by
 refine run_res (run_pure (fn := g117) rfl rfl (by decide) ?_)
 simp only [g117, b117, zO, zN, zM, zL, zG, zP, zQ, zI, zA, zT, zF, zB, zC, zD, zE, zH, zJ, zK]
 have h1 : ahead ⟨a, b⟩ ⟨c, d⟩ = (decide (b < d) || (b == d && decide (a < c))) := rfl
 rw [h1]
 by_cases e1 : b < d
 ·simp +contextual -implicitDefEqProofs (maxSteps := 2000000) only [↓wP, wS, seval, e1]
 ·by_cases e2 : b = d
  ·simp +contextual -implicitDefEqProofs (maxSteps := 2000000) only [↓wP, wS, seval, e1, e2]
  ·have e3 : (b == d) = false := by simp [e2]
   simp +contextual -implicitDefEqProofs (maxSteps := 2000000) only [↓wP, wS, seval, e1, e3]
def f117 (a b c d : Int) := callE_tr (by decide) (r117 a b c d) (by simp [Tr, Tr_slV]) rfl
def mv (s : List Hit) (h : Hit) (k : Nat) : List Hit := s.take k ++ h :: s.drop k
theorem mv_len (s : List Hit) (h : Hit) (k : Nat) : (mv s h k).length = s.length + 1 := by simp [mv]; omega
theorem mv_end (s : List Hit) (h : Hit) : mv s h s.length = s ++ [h] := by simp [mv]
theorem mv_step (s : List Hit) (h : Hit) (m : Nat) (hm : m < s.length) : ((mv s h (m + 1)).set (m + 1) s[m]).set m h = mv s h m := by
 have e1 : s.take (m + 1) = s.take m ++ [s[m]] := (List.take_append_getElem hm).symm
 have e2 : s.drop m = s[m] :: s.drop (m + 1) := List.drop_eq_getElem_cons hm
 unfold mv
 rw [e1, e2]
 have hl : (s.take m).length = m := by rw [List.length_take]; omega
 generalize s[m] = x at *
 generalize s.drop (m + 1) = b at *
 generalize s.take m = a at *
 subst hl
 simp [List.set_append]
theorem mv_get0 (s : List Hit) (h : Hit) (k : Nat) (hk : k ≤ s.length) : (hs (mv s h k))[k]? = some (.agg [.int .u64 h.id, .int .u64 h.d]) := by
 have : (mv s h k)[k]? = some h := by
  unfold mv
  rw [List.getElem?_append_right (by rw [List.length_take]; omega), List.length_take, Nat.min_eq_left hk, Nat.sub_self]
  rfl
 simp [hs, this, hitV]
theorem mv_get1 (s : List Hit) (h : Hit) (m : Nat) (hm : m < s.length) : (hs (mv s h (m + 1)))[m]? = some (.agg [.int .u64 s[m].id, .int .u64 s[m].d]) := by
 have : (mv s h (m + 1))[m]? = some s[m] := by
  unfold mv
  rw [List.getElem?_append_left (by rw [List.length_take]; omega), List.getElem?_take_of_lt (by omega), List.getElem?_eq_getElem hm]
 simp [hs, this, hitV]
theorem r104 (o : Option (List Hit)) (hl : (lst o).length ≤ 4000000) : res T 104 [slV 2 hitV o] = some (slV 2 hitV (optH (srt (lst o)))) := by
 refine run_res (run_pure (fn := g104) rfl rfl (by decide) ?_)
 simp only [g104, b104, zO, zN, zM, zL, zG, zP, zQ, zI, zA, zT, zF, zB, zC, zD, zE, zH, zJ, zK]
 simp +contextual -implicitDefEqProofs (maxSteps := 2000000) only [↓wP, wQ, wQ1, wQ2, wQ3, wR, boxE, partsOf, ↓reduceIte, n1w, n2w, n3w, n4w, n5w, n6w, reduceCtorEq, i1w, i2w, i3w, i4w, i5w]
 refine WC_for (lst o).length 0 (fun (j : Nat) env σ n => env 8 = slV 2 hitV o ∧ Pl σ 0 n 2 (env 3) (oH (srt ((lst o).take j)))) (by omega) (by decide) (by decide) (fun _ _ => rfl) (fun _ _ _ => rfl) ?_ ?_ _ _ _ rfl rfl ?_
 ·intro j env σ n hj h1 h2 ⟨h3, h4⟩
  simp only [vl_tmp] at h2
  have hx : (lst o)[j]? = some (lst o)[j] := List.getElem?_eq_getElem hj
  have ht : srt ((lst o).take (j + 1)) = ins (lst o)[j] (srt ((lst o).take j)) := by rw [← List.take_append_getElem hj, srt_snoc]
  have hsl : (srt ((lst o).take j)).length = j := by rw [srt_len, List.length_take]; omega
  generalize (lst o)[j] = h at *
  generalize srt ((lst o).take j) = s at *
  generalize hv3 : env 3 = v3 at h4
  obtain ⟨σ1, hσ1⟩ : ∃ σ1, σ1 = upd (upd σ n (some (.row 2 [.agg [.int .u64 0, .int .u64 0]]))) n (some (.row 2 [.agg [.int .u64 h.id, .int .u64 h.d]])) := ⟨_, rfl⟩
  have sn : σ1 n = some (.row 2 [.agg [.int .u64 h.id, .int .u64 h.d]]) := by rw [hσ1]; simp [upd]
  have so : ∀ i, 0 ≤ i → i < n → σ1 i = σ i := fun i _ hi => by
   have : i ≠ n := by omega
   rw [hσ1]; simp [upd, this]
  have hp1 : Pl σ1 0 n 2 v3 (oH s) := h4.loc so (Nat.le_refl _)
  have hlen := plLen hp1
  simp +contextual -implicitDefEqProofs (maxSteps := 2000000) only [↓wP, wQ, wQ1, wQ2, wQ3, wR, boxE, partsOf, ↓reduceIte, n1w, n2w, n3w, n4w, n5w, n6w, reduceCtorEq, i1w, i2w, i3w, i4w, i5w, h1, h2, h3, hv3, hx, hitV_eq, ← hσ1]
  refine WC_loopE 2 0 (fun (at' : Nat) env σ' n' => σ' = σ1 ∧ n' = n + 1 ∧ env 8 = slV 2 hitV o ∧ env 9 = .int .i64 ((lst o).length : Int) ∧ env 10 = .int .i64 (j : Int) ∧ env 3 = v3 ∧ env 5 = .ptr n 2 0 0 ∧ env 6 = .int .i64 (at' : Int) ∧ at' ≤ pos h s) (fun at' => s.length - at')
   (fun env σ' n' => σ' = σ1 ∧ n' = n + 1 ∧ env 8 = slV 2 hitV o ∧ env 9 = .int .i64 ((lst o).length : Int) ∧ env 10 = .int .i64 (j : Int) ∧ env 3 = v3 ∧ env 5 = .ptr n 2 0 0 ∧ env 6 = .int .i64 (pos h s : Int)) ?_ ?_ 0 _ _ _ ?_
  ·clear h1 h2 h3 hv3
   intro at' env σ' n' ⟨k1, k2, k3, k4, k5, k6, k7, k8, k9⟩
   subst k1 k2
   have hple := pos_le h s
   by_cases hat : at' < s.length
   ·have hat' : (at' : Int) < (s.length : Int) := by omega
    have hne : s ≠ [] := by intro e; rw [e] at hat; simp at hat
    obtain ⟨i, rfl, r1, r2, r3⟩ := plRefs hp1 hne
    have xg := hs_get hat
    by_cases hlt : at' < pos h s
    ·have hah := pos_lt hlt hat
     have wi : IntKind.i64.wrap ((at' : Int) + 1) = ((at' + 1 : Nat) : Int) := by rw [wrap_i64] <;> omega
     have e29 : ahead ⟨h.id, h.d⟩ ⟨s[at'].id, s[at'].d⟩ = false := hah
     simp +contextual -implicitDefEqProofs (maxSteps := 2000000) only [↓wP, wQ, wQ1, wQ2, wQ3, wR, boxE, partsOf, ↓reduceIte, n1w, n2w, n3w, n4w, n5w, n6w, reduceCtorEq, i1w, i2w, i3w, i4w, i5w, exQ_exit, k3, k4, k5, k6, k7, k8, hat, hat', sn, r1, xg, f117, e29, wi]
     exact ⟨at' + 1, by omega, rfl, by omega⟩
    ·have e : at' = pos h s := by omega
     subst e
     have e29 : ahead ⟨h.id, h.d⟩ ⟨s[pos h s].id, s[pos h s].d⟩ = true := pos_at hat
     simp +contextual -implicitDefEqProofs (maxSteps := 2000000) only [↓wP, wQ, wQ1, wQ2, wQ3, wR, boxE, partsOf, ↓reduceIte, n1w, n2w, n3w, n4w, n5w, n6w, reduceCtorEq, i1w, i2w, i3w, i4w, i5w, exQ_exit, k3, k4, k5, k6, k7, k8, hat, hat', sn, r1, xg, f117, e29]
   ·have hat' : ¬ (at' : Int) < (s.length : Int) := by omega
    have e : at' = pos h s := by omega
    simp +contextual -implicitDefEqProofs (maxSteps := 2000000) only [↓wP, wQ, wQ1, wQ2, wQ3, wR, boxE, partsOf, ↓reduceIte, n1w, n2w, n3w, n4w, n5w, n6w, reduceCtorEq, i1w, i2w, i3w, i4w, i5w, exQ_exit, k3, k4, k5, k6, k7, k8, hlen, hat']
    rw [e]
  ·clear h1 h2 h3 hv3
   intro env σ' n' ⟨k1, k2, h8, h9, h10, h3, h5, h6⟩
   subst k1 k2
   have hple := pos_le h s
   simp +contextual -implicitDefEqProofs (maxSteps := 2000000) only [↓wP, wQ, wQ1, wQ2, wQ3, wR, boxE, partsOf, ↓reduceIte, n1w, n2w, n3w, n4w, n5w, n6w, reduceCtorEq, i1w, i2w, i3w, i4w, i5w, h8, h9, h10, h3, h5, h6, sn]
   refine stepW_app1 (m := 0) (n0 := n) (σ0 := σ') (o := oH s) hp1 (fun i _ hi => ?_) (by omega) (by omega) (Nat.le_refl _) ?_ (fun _ σ2 q1 q2 => ?_)
   ·have a1 : i ≠ n + 1 := by omega
    simp [upd, a1]
   ·rw [lst_oH, hs_len]; unfold LIM; omega
   ·rw [lst_oH, hs_len] at q1 ⊢
    have hrow : σ2 (n + 2) = some (.row 2 (hs (mv s h s.length))) := by
     obtain ⟨i, e1, e2, -⟩ := q1
     simp only [V.ref.injEq] at e1
     rw [e1.1, e2, mv_end]
     simp [hs, hitV]
    have w1 : IntKind.i64.wrap (((s.length + 1 : Nat) : Int) - 1) = (s.length : Int) := by rw [wrap_i64] <;> omega
    simp +contextual -implicitDefEqProofs (maxSteps := 2000000) only [↓wP, wQ, wQ1, wQ2, wQ3, wR, boxE, partsOf, ↓reduceIte, n1w, n2w, n3w, n4w, n5w, n6w, reduceCtorEq, i1w, i2w, i3w, i4w, i5w, h8, h9, h10, h3, h5, h6, w1]
    refine WC_loopE 4 0 (fun (k : Nat) env σ' n' => n' = n + 2 + 1 ∧ env 8 = slV 2 hitV o ∧ env 9 = .int .i64 ((lst o).length : Int) ∧ env 10 = .int .i64 (j : Int) ∧ env 3 = .ref (n + 2) 0 (s.length + 1) 2 ∧ env 6 = .int .i64 (pos h s : Int) ∧ env 7 = .int .i64 (k : Int) ∧
     pos h s ≤ k ∧ k ≤ s.length ∧ σ' (n + 2) = some (.row 2 (hs (mv s h k)))) (fun k => k)
     (fun env σ' n' => n' = n + 2 + 1 ∧ env 8 = slV 2 hitV o ∧ env 9 = .int .i64 ((lst o).length : Int) ∧ env 10 = .int .i64 (j : Int) ∧ env 3 = .ref (n + 2) 0 (s.length + 1) 2 ∧ σ' (n + 2) = some (.row 2 (hs (mv s h (pos h s))))) ?_ ?_ s.length _ _ _ ?_
    ·clear h8 h9 h10 h3 h5 h6 hrow q1 q2
     intro k env σ3 n3 ⟨k1, k2, k3, k4, k5, k6, k7, k8, k9, k10⟩
     subst k1
     by_cases hlt : pos h s < k
     ·have hlt' : (pos h s : Int) < (k : Int) := by omega
      obtain ⟨m, rfl⟩ : ∃ m, k = m + 1 := ⟨k - 1, by omega⟩
      have hm : m < s.length := by omega
      have wk : IntKind.i64.wrap (((m + 1 : Nat) : Int) - 1) = (m : Int) := by rw [wrap_i64] <;> omega
      have g0 := mv_get0 s h (m + 1) k9
      have g1 := mv_get1 s h m hm
      have l1 : m + 1 < s.length + 1 := by omega
      have l2 : m < s.length + 1 := by omega
      obtain ⟨u, v, g2⟩ := hs_set_at (l := mv s h (m + 1)) (i := m + 1) (j := m) (x := s[m]) (by rw [mv_len]; omega)
      have ms := mv_step s h m hm
      simp +contextual -implicitDefEqProofs (maxSteps := 2000000) only [↓wP, wQ, wQ1, wQ2, wQ3, wR, boxE, partsOf, ↓reduceIte, n1w, n2w, n3w, n4w, n5w, n6w, reduceCtorEq, i1w, i2w, i3w, i4w, i5w, exQ_exit, k2, k3, k4, k5, k6, k7, hlt', wk, g0, g1, g2, l1, l2, k10]
      exact ⟨m, by omega, rfl, by omega, by omega, by rw [hs_set, hs_set, ms]⟩
     ·have hlt' : ¬ (pos h s : Int) < (k : Int) := by omega
      have e : k = pos h s := by omega
      subst e
      simp +contextual -implicitDefEqProofs (maxSteps := 2000000) only [↓wP, wQ, wQ1, wQ2, wQ3, wR, boxE, partsOf, ↓reduceIte, n1w, n2w, n3w, n4w, n5w, n6w, reduceCtorEq, i1w, i2w, i3w, i4w, i5w, exQ_exit, k2, k3, k4, k5, k6, k7, hlt']
      exact k10
    ·clear h8 h9 h10 h3 h5 h6 hrow q1 q2
     intro env σ3 n3 ⟨k1, k2, k3, k4, k5, k6⟩
     subst k1
     simp +contextual -implicitDefEqProofs (maxSteps := 2000000) only [↓wP, wQ, wQ1, wQ2, wQ3, wR, boxE, partsOf, ↓reduceIte, n1w, n2w, n3w, n4w, n5w, n6w, reduceCtorEq, i1w, i2w, i3w, i4w, i5w, k2, k3, k4, k5]
     rw [ht, ins_eq]
     have e : s.length + 1 = (s.take (pos h s) ++ h :: s.drop (pos h s)).length := by rw [← mv_len s h (pos h s)]; rfl
     rw [e]
     exact plOf (by simp) k6 (by omega) (by omega)
    ·simp +contextual -implicitDefEqProofs (maxSteps := 2000000) only [↓wP, wQ, wQ1, wQ2, wQ3, wR, boxE, partsOf, ↓reduceIte, n1w, n2w, n3w, n4w, n5w, n6w, reduceCtorEq, i1w, i2w, i3w, i4w, i5w, h8, h9, h10, h3, h6]
     exact ⟨hple, hrow⟩
  ·simp +contextual -implicitDefEqProofs (maxSteps := 2000000) only [↓wP, wQ, wQ1, wQ2, wQ3, wR, boxE, partsOf, ↓reduceIte, n1w, n2w, n3w, n4w, n5w, n6w, reduceCtorEq, i1w, i2w, i3w, i4w, i5w, h1, h2, h3, hv3]
   rfl
 ·intro env σ n ⟨h3, h4⟩ h1 h2
  rw [List.take_length] at h4
  have hf := plHf h4
  simp +contextual -implicitDefEqProofs (maxSteps := 2000000) only [↓wP, wQ, wQ1, wQ2, wQ3, wR, boxE, partsOf, ↓reduceIte, n1w, n2w, n3w, n4w, n5w, n6w, reduceCtorEq, i1w, i2w, i3w, i4w, i5w, hf]
 ·simp +contextual -implicitDefEqProofs (maxSteps := 2000000) only [↓wP, wQ, wQ1, wQ2, wQ3, wR, boxE, partsOf, ↓reduceIte, n1w, n2w, n3w, n4w, n5w, n6w, reduceCtorEq, i1w, i2w, i3w, i4w, i5w]
  simp [oH, srt, Pl]
def f104 (o : Option (List Hit)) (hl : (lst o).length ≤ 4000000) := callE_tr (by decide) (r104 o hl) (by simp [Tr, Tr_slV]) (Nw_slV 2 hitV _ 11)
def refF (k : Nat) (l : List Hit) : Option (List Hit) := sub (optH (srt l)) 0 (min k l.length)
theorem lst_refF (k : Nat) (l : List Hit) : lst (refF k l) = fst' k l := by
 unfold refF
 rw [lst_sub, lst_optH, List.drop_zero, fst']
 rcases Nat.le_total k l.length with h | h
 ·rw [Nat.min_eq_left h]
 ·rw [Nat.min_eq_right h, List.take_of_length_le (by rw [srt_len]; exact Nat.le_refl _), List.take_of_length_le (by rw [srt_len]; exact h)]
theorem r68 (o : Option (List Hit)) (k : Nat) (hl : (lst o).length ≤ 4000000) (hk : k < 9223372036854775808) : res T 68 [slV 2 hitV o, .int .i64 (k : Int)] = some (slV 2 hitV (refF k (lst o))) := by
 refine run_res (run_pure (fn := g68) rfl rfl (by decide) ?_)
 simp only [g68, b68, zO, zN, zM, zL, zG, zP, zQ, zI, zA, zT, zF, zB, zC, zD, zE, zH, zJ, zK]
 have hmin : minV (.int .i64 (k : Int)) (.int .i64 ((lst o).length : Int)) = some (.int .i64 ((min k (lst o).length : Nat) : Int)) := by
  rw [minV_int]
  congr 2
  split <;> omega
 have h1 : min k (lst o).length ≤ (lst o).length := Nat.min_le_right _ _
 have h2 := f104 o hl
 have h3 : (lst (optH (srt (lst o)))).length = (lst o).length := by rw [lst_optH, srt_len]
 simp +contextual -implicitDefEqProofs (maxSteps := 2000000) only [↓wP, wS, seval, h2, h3, hmin, h1]
 rfl
theorem r11 (a b : Option (List Hit)) (hl : (lst a).length < 9223372036854775808) : res T 11 [slV 2 hitV a, slV 2 hitV b] = some (.bool (decide (lst a = lst b))) := by
 refine run_res (run_pure (fn := g11) rfl rfl (by decide) ?_)
 simp only [g11, b11, zO, zN, zM, zL, zG, zP, zQ, zI, zA, zT, zF, zB, zC, zD, zE, zH, zJ, zK]
 by_cases hlen : (lst a).length = (lst b).length
 ·have hd : (((lst a).length : Int) != ((lst b).length : Int)) = false := by simp [hlen]
  simp +contextual -implicitDefEqProofs (maxSteps := 2000000) only [↓wP, wS, seval, hd]
  refine WC_for (lst a).length 0 (fun (j : Nat) env σ n => env 0 = slV 2 hitV a ∧ env 1 = slV 2 hitV b ∧ (lst a).take j = (lst b).take j) hl (by decide) (by decide) (fun _ _ => rfl) (fun _ _ _ => rfl) ?_ ?_ _ _ _ rfl rfl ?_
  ·intro j env σ n hj h1 h2 ⟨h3, h4, h5⟩
   simp only [vl_tmp] at h2
   have hx : (lst a)[j]? = some (lst a)[j] := List.getElem?_eq_getElem hj
   have hy : (lst b)[j]? = some (lst b)[j] := List.getElem?_eq_getElem (by omega)
   have ta := (List.take_append_getElem hj).symm
   have tb := (List.take_append_getElem (l := lst b) (i := j) (by omega)).symm
   generalize (lst a)[j] = x at *
   generalize (lst b)[j] = y at *
   by_cases hxy : x = y
   ·have hde : decide ((⟨x.id, x.d⟩ : Hit) = ⟨y.id, y.d⟩) = true := by simp [hxy]
    simp +contextual -implicitDefEqProofs (maxSteps := 2000000) only [↓wP, wS, seval, h1, h2, h3, h4, hx, hy, hitV_eq, eqc_hit, hde, Bool.bne_true]
    rw [ta, tb, h5, hxy]
   ·have hde : decide ((⟨x.id, x.d⟩ : Hit) = ⟨y.id, y.d⟩) = false := decide_eq_false hxy
    have hne : lst a ≠ lst b := by
     intro h
     rw [h] at hx
     exact hxy (Option.some.inj (hx.symm.trans hy))
    simp +contextual -implicitDefEqProofs (maxSteps := 2000000) only [↓wP, wS, seval, h1, h2, h3, h4, hx, hy, hitV_eq, eqc_hit, hde, Bool.bne_true, hne]
  ·intro env σ n ⟨h3, h4, h5⟩ h1 h2
   have heq := take_eq hlen h5
   simp +contextual -implicitDefEqProofs (maxSteps := 2000000) only [↓wP, wS, seval, heq]
  ·simp +contextual -implicitDefEqProofs (maxSteps := 2000000) only [↓wP, wS, seval]
 ·have hd : (((lst a).length : Int) != ((lst b).length : Int)) = true := by simp; omega
  have hne : lst a ≠ lst b := fun h => hlen (by rw [h])
  simp +contextual -implicitDefEqProofs (maxSteps := 2000000) only [↓wP, wS, seval, hd, hne]
theorem f11 {σ : Sto} {v w : V} {a b : List Hit} (ha : Hf σ v a) (hb : Hf σ w b) (hl : a.length < 9223372036854775808) (fs : Bool) (n lk : Nat) : callE T fs 11 [v, w] σ n lk = some (.bool (decide (a = b)), σ, n) := by
 obtain ⟨o, rfl, h1⟩ := ha
 obtain ⟨q, rfl, h2⟩ := hb
 have e : [v, w].mapM (frz σ 12) = some [slV 2 hitV o, slV 2 hitV q] := by simp only [List.mapM_cons, List.mapM_nil, h1, h2]; rfl
 rw [callE_flat (by decide) e (r11 o q hl) rfl]; rfl
end Go.Q.SY
end

section
/- Places of the nearest centroids. -/
namespace Go.Q.SY
open Go.Q Go.Sort
open Nat renaming reduceEqDiff → n1w, reduceAdd → n2w, reduceSub → n3w, reduceLeDiff → n4w, reduceLT → n5w, reduceMul → n6w
open Int renaming reduceBNe → i1w, reduceBEq → i2w, reduceLT → i3w, reduceLE → i4w, reduceGT → i5w
theorem r72 (i d i' d' : Int) : res T 72 [.agg [.int .u64 i, .int .u64 d], .agg [.int .u64 i', .int .u64 d']] = some (.int .i64 (cmpH ⟨i, d⟩ ⟨i', d'⟩)) := by
 refine run_res (run_pure (fn := g72) rfl rfl (by decide) ?_)
 simp only [g72, b72, zO, zN, zM, zL, zG, zP, zQ, zI, zA, zT, zF, zB, zC, zD, zE, zH, zJ, zK]
 have h26 := r73 (cmpU d d') (cmpU i i')
 have hm26 : T.mode 73 ≠ .raw := by decide
 simp +contextual -implicitDefEqProofs (maxSteps := 2000000) only [↓wP, wS, seval, f74, callE_eq hm26, frz_rf, h26]
 rfl
def f72 (i d i' d' : Int) := callE_tr (by decide) (r72 i d i' d') (by simp [Tr, Tr_slV]) rfl
theorem raw75p (d : Array Hit) (a b id n : Nat) (σ : Sto) (hab : a ≤ b) (hb : b ≤ d.size) (hn : d.size < 1000000) (hσ : σ id = some (.row 2 (rw' d))) {Q : V → Sto → Nat → Prop}
 (hQ : ∀ σ', At σ' σ id (insertionSort ahead d a b) → Q .undef σ' n) :
 run T (.raw 118 [.ref id 0 d.size 2, .int .i64 (a : Int), .int .i64 (b : Int), .fn 72 []] σ n 0) (memQ Q) := by
 refine run_rawE (fn := g118) rfl rfl ?_
 simp only [g118, b118, zO, zN, zM, zL, zG, zP, zQ, zI, zA, zT, zF, zB, zC, zD, zE, zH, zJ, zK]
 have w1 : IntKind.i64.wrap ((a : Int) + 1) = ((a + 1 : Nat) : Int) := by rw [wrap_i64] <;> omega
 generalize hsz : d.size = N at *
 simp +contextual -implicitDefEqProofs (maxSteps := 2000000) only [↓wP, wS, seval, w1]
 refine WC_loopI 0 (fun (s : Nat × Array Hit) env σ' n' => n' = n ∧ env 0 = .ref id 0 N 2 ∧ env 1 = .int .i64 (a : Int) ∧ env 2 = .int .i64 (b : Int) ∧ env 3 = .fn 72 [] ∧ env 8 = .int .i64 (s.1 : Int) ∧
  a < s.1 ∧ (s.1 ≤ b ∨ s.1 = a + 1) ∧ s.2.size = N ∧ At σ' σ id s.2 ∧ insOuter ahead a b s.1 s.2 = insertionSort ahead d a b) (fun s => b + 1 - s.1) ?_ (a + 1, d) _ _ _ ?_
 ·intro ⟨i, e⟩ env σ1 n1 ⟨h1, h2, h3, h4, h5, h6, h7, h8, h9, h10, h11⟩
  subst h1
  simp only at h6 h7 h8 h9 h10 h11
  by_cases hlt : i < b
  ·have w2 : IntKind.i64.wrap ((i : Int) + 1) = ((i + 1 : Nat) : Int) := by rw [wrap_i64] <;> omega
   have hlt' : (i : Int) < (b : Int) := by omega
   rw [insOuter, if_pos hlt] at h11
   simp +contextual -implicitDefEqProofs (maxSteps := 2000000) only [↓wP, wS, seval, h2, h3, h4, h5, h6, hlt']
   refine WC_loopI 0 (fun (s : Nat × Array Hit) env σ' n' => n' = n1 ∧ env 0 = .ref id 0 N 2 ∧ env 1 = .int .i64 (a : Int) ∧ env 2 = .int .i64 (b : Int) ∧ env 3 = .fn 72 [] ∧ env 8 = .int .i64 (i : Int) ∧ env 9 = .int .i64 (s.1 : Int) ∧
    s.1 ≤ i ∧ s.2.size = N ∧ At σ' σ id s.2 ∧ insInner ahead a s.1 s.2 = insInner ahead a i e) (fun s => s.1) ?_ (i, e) _ _ _ ?_
   ·clear h2 h3 h4 h5 h6 h10
    intro ⟨j, g⟩ env σ2 n2 ⟨k1, k2, k3, k4, k5, k6, k7, k8, k9, k10, k11⟩
    subst k1
    simp only at k7 k8 k9 k10 k11
    have hat := k10.1
    by_cases hja : a < j
    ·obtain ⟨j, rfl⟩ : ∃ j', j = j' + 1 := ⟨j - 1, by omega⟩
     have hja' : (a : Int) < ((j + 1 : Nat) : Int) := by omega
     have w3 : IntKind.i64.wrap (((j + 1 : Nat) : Int) - 1) = (j : Int) := by rw [wrap_i64] <;> omega
     have x1 := rw_at (d := g) (i := j + 1) (by omega)
     have x2 := rw_at (d := g) (i := j) (by omega)
     have l1 : j + 1 < N := by omega
     have l2 : j < N := by omega
     by_cases hc : cmpH g[j + 1]! g[j]! < 0
     ·have hah : ahead g[j + 1]! g[j]! = true := by rw [← cmp_lt]; simpa using hc
      obtain ⟨u, v, x3⟩ := rw_set_at (d := g) (i := j + 1) (j := j) (x := g[j]!) (by omega)
      simp +contextual -implicitDefEqProofs (maxSteps := 2000000) only [↓wP, wS, seval, k2, k3, k4, k5, k6, k7, hja', w3, hat, l1, l2, x1, x2, x3, f72, hc]
      refine ⟨(j, swp g (j + 1) j), by dsimp only; omega, rfl, by dsimp only; omega, by rw [swp_size, k9], k10.swp _ _, ?_⟩
      dsimp only
      rw [← insIn_lt hja hah]
      exact k11
     ·have hah : ahead g[j + 1]! g[j]! = false := by rw [← cmp_lt]; simpa using hc
      simp +contextual -implicitDefEqProofs (maxSteps := 2000000) only [↓wP, wS, seval, k2, k3, k4, k5, k6, k7, hja', w3, hat, l1, l2, x1, x2, f72, hc, w2]
      refine ⟨(i + 1, g), by dsimp only; omega, rfl, by dsimp only; omega, by dsimp only; omega, k9, k10, ?_⟩
      dsimp only
      rw [insIn_stop (.inr ⟨by omega, hah⟩)] at k11
      rw [k11]
      exact h11
    ·have hja' : ¬ (a : Int) < (j : Int) := by omega
     simp +contextual -implicitDefEqProofs (maxSteps := 2000000) only [↓wP, wS, seval, k2, k3, k4, k5, k6, k7, hja', w2]
     refine ⟨(i + 1, g), by dsimp only; omega, rfl, by dsimp only; omega, by dsimp only; omega, k9, k10, ?_⟩
     dsimp only
     rw [insIn_stop (.inl (by omega))] at k11
     rw [k11]
     exact h11
   ·simp +contextual -implicitDefEqProofs (maxSteps := 2000000) only [↓wP, wS, seval, h2, h3, h4, h5, h6]
    exact ⟨h9, h10⟩
  ·have hlt' : ¬ (i : Int) < (b : Int) := by omega
   rw [insOuter, if_neg hlt] at h11
   simp +contextual -implicitDefEqProofs (maxSteps := 2000000) only [↓wP, wS, seval, h2, h3, h4, h5, h6, hlt']
   refine hQ _ ?_
   rw [← h11]
   exact h10
 ·simp +contextual -implicitDefEqProofs (maxSteps := 2000000) only [↓wP, wS, seval]
  exact ⟨by omega, .inr trivial, hsz, At.refl hσ, rfl⟩
theorem raw75pN {d : Array Hit} {N : Nat} (hN : d.size = N) (a b id n : Nat) (σ : Sto) (hab : a ≤ b) (hb : b ≤ N) (hn : N < 1000000) (hσ : σ id = some (.row 2 (rw' d))) {Q : V → Sto → Nat → Prop}
 (hQ : ∀ σ', At σ' σ id (insertionSort ahead d a b) → Q .undef σ' n) :
 run T (.raw 118 [.ref id 0 N 2, .int .i64 (a : Int), .int .i64 (b : Int), .fn 72 []] σ n 0) (memQ Q) := by subst hN; exact raw75p d a b id n σ hab hb hn hσ hQ
theorem raw62p {d : Array Hit} {N : Nat} (hN : d.size = N) (lim : Int) (id n : Nat) (σ : Sto) (h12 : N ≤ 12) (hσ : σ id = some (.row 2 (rw' d))) {Q : V → Sto → Nat → Prop}
 (hQ : ∀ σ', At σ' σ id (insertionSort ahead d 0 N) → Q .undef σ' n) :
 run T (.raw 105 [.ref id 0 N 2, .int .i64 0, .int .i64 (N : Int), .int .i64 lim, .fn 72 []] σ n 0) (memQ Q) := by
 refine run_rawE (fn := g105) rfl rfl ?_
 simp only [g105, b105, zO, zN, zM, zL, zG, zP, zQ, zI, zA, zT, zF, zB, zC, zD, zE, zH, zJ, zK]
 have w1 : IntKind.i64.wrap ((N : Int) - 0) = (N : Int) := by rw [wrap_i64] <;> omega
 have h12' : (N : Int) ≤ 12 := by omega
 simp +contextual -implicitDefEqProofs (maxSteps := 2000000) only [↓wP, wS, seval, w1]
 refine WC_loopI 0 (fun (s : Nat) env σ' n' => n' = n ∧ σ' = σ ∧ env 0 = .ref id 0 N 2 ∧ env 1 = .int .i64 0 ∧ env 2 = .int .i64 (N : Int) ∧ env 4 = .fn 72 []) (fun s => s) ?_ 0 _ _ _ ?_
 ·intro _ env σ' n' ⟨h1, h2, h3, h4, h5, h6⟩
  subst h1 h2
  simp +contextual -implicitDefEqProofs (maxSteps := 2000000) only [↓wP, wS, seval, w1, h3, h4, h5, h6, h12']
  refine stepW_raw (by decide) (raw75pN hN 0 N id n' σ' (by omega) (by omega) (by omega) hσ fun σ2 hat => ?_)
  simp +contextual -implicitDefEqProofs (maxSteps := 2000000) only [↓wP, wS, seval]
  exact hQ σ2 hat
 ·simp +contextual -implicitDefEqProofs (maxSteps := 2000000) only [↓wP, wS, seval]
theorem raw46p {d : Array Hit} {N : Nat} (hN : d.size = N) (id n : Nat) (σ : Sto) (h12 : N ≤ 12) (hσ : σ id = some (.row 2 (rw' d))) {Q : V → Sto → Nat → Prop}
 (hQ : ∀ σ', (∀ i, i ≠ id → σ' i = σ i) → σ' id = some (.row 2 (hs (srt d.toList))) → Q .undef σ' n) :
 run T (.raw 71 [.ref id 0 N 2, .fn 72 []] σ n 0) (memQ Q) := by
 refine run_rawE (fn := g71) rfl rfl ?_
 simp only [g71, b71, zO, zN, zM, zL, zG, zP, zQ, zI, zA, zT, zF, zB, zC, zD, zE, zH, zJ, zK]
 obtain ⟨M, h1, h2, h3⟩ := r106 N (by omega)
 have f106 := callE_tr (fs := true) (by decide) h3 (by simp [Tr]) rfl
 have wu : IntKind.u64.wrap ((N : Nat) : Int) = ((N : Nat) : Int) := by rw [wrap_u64] <;> omega
 simp +contextual -implicitDefEqProofs (maxSteps := 2000000) only [↓wP, wS, seval, wu, f106]
 refine stepW_raw (by decide) (raw62p hN _ id n σ h12 hσ fun σ' hat => ?_)
 simp +contextual -implicitDefEqProofs (maxSteps := 2000000) only [↓wP, wS, seval]
 refine hQ σ' hat.2 ?_
 have hs' := insertionSort_holds (lt := ahead) swoA d 0 N (by omega) (by omega)
 subst hN
 obtain ⟨e, he⟩ : ∃ e, e = insertionSort ahead d 0 d.size := ⟨_, rfl⟩
 have h1 := hat.1
 rw [← he] at hs' h1
 obtain ⟨⟨p1, -, p3⟩, p4⟩ := hs'
 have ee : e.toList = srt d.toList := by
  refine Srt.uniq (sorted_list (by rw [p1]; exact p4)) (srt_srt _) ?_
  have q1 : (e.extract 0 d.size).toList = e.toList := by rw [← p1]; simp
  have q2 : (d.extract 0 d.size).toList = d.toList := by simp
  rw [q1, q2] at p3
  exact p3.trans (srt_perm _).symm
 rw [h1, ← ee]; rfl
def ctH (q : Vc) (c : List Vc) (i : Nat) : List Hit := (c.zipIdx i).map fun p => ⟨p.2, distI p.1 q⟩
theorem ctH_len (q : Vc) (c : List Vc) (i : Nat) : (ctH q c i).length = c.length := by simp [ctH]
theorem ctH_get (q : Vc) (c : List Vc) (j : Nat) (h : j < c.length) : (ctH q c 0)[j]? = some ⟨j, distI c[j] q⟩ := by
 simp [ctH, List.getElem?_zipIdx, h]
def zh : V := .agg [.int .u64 0, .int .u64 0]
def fil (q : Vc) (c : List Vc) (j : Nat) : List V := hs ((ctH q c 0).take j) ++ List.replicate (c.length - j) zh
theorem fil_len (q : Vc) (c : List Vc) (j : Nat) (hj : j ≤ c.length) : (fil q c j).length = c.length := by simp [fil, hs_len, ctH_len]; omega
theorem fil_set (q : Vc) (c : List Vc) (j : Nat) (hj : j < c.length) : (fil q c j).set j (.agg [.int .u64 (j : Int), .int .u64 (distI c[j] q)]) = fil q c (j + 1) := by
 have h1 : (hs ((ctH q c 0).take j)).length = j := by rw [hs_len, List.length_take, ctH_len]; omega
 have h2 : (ctH q c 0)[j]'(by rw [ctH_len]; exact hj) = ⟨j, distI c[j] q⟩ := by
  have := ctH_get q c j hj
  rw [List.getElem?_eq_getElem (by rw [ctH_len]; exact hj)] at this
  exact Option.some.inj this
 have h3 : (ctH q c 0).take (j + 1) = (ctH q c 0).take j ++ [⟨j, distI c[j] q⟩] := by rw [← h2]; exact (List.take_append_getElem _).symm
 have h4 : c.length - j = (c.length - (j + 1)) + 1 := by omega
 unfold fil
 rw [h3, h4, List.replicate_succ, List.set_append_right _ _ (by omega), h1, Nat.sub_self, List.set_cons_zero, ← hs_app]
 simp [hs, hitV]
def srcV (q : Vc) (k ts n : Int) (c : Option (List Vc)) : List V := [slV 1 i32V q, .int .i64 k, .int .u64 ts, .int .i64 n, slV 1 vecV c]
theorem r42 (q : Vc) (k ts m : Int) (c : Option (List Vc)) (hc : cents c = true) (hv : ∀ v ∈ lst c, Sm v) (hq : Sm q) (hq2 : okV q = true) (hd : dm c = (lst q).length) (hne : lst c ≠ []) :
 res T 42 [.agg (srcV q k ts m c)] = some (.fn 75 [.box [.sl 2 (hs (srt (ctH q (lst c) 0)))], .box (srcV q k ts m c)]) := by
 refine run_res (run_pure (fn := g42) rfl rfl (by decide) ?_)
 simp only [g42, b42, zO, zN, zM, zL, zG, zP, zQ, zI, zA, zT, zF, zB, zC, zD, zE, zH, zJ, zK, srcV]
 have h6 : (lst c).length ≤ 6 := by unfold cents at hc; simp only [Bool.and_eq_true, decide_eq_true_eq] at hc; exact hc.1
 have hall : ∀ v ∈ lst c, okV v = true ∧ (lst v).length = dm c := by
  unfold cents at hc
  simp only [Bool.and_eq_true, decide_eq_true_eq] at hc
  intro v hv
  have := List.all_eq_true.1 hc.2 v hv
  simpa [okC] using this
 have b1 : (0 : Int) ≤ ((lst c).length : Int) := by omega
 have b2 : ((16 : Nat) : Int) * ((lst c).length : Int) ≤ 140737488355328 := by omega
 have b3 : ((lst c).length : Int).toNat = (lst c).length := rfl
 simp +contextual -implicitDefEqProofs (maxSteps := 2000000) only [↓wP, wQ, wQ1, wQ2, wQ3, wR, boxE, partsOf, ↓reduceIte, n1w, n2w, n3w, n4w, n5w, n6w, reduceCtorEq, i1w, i2w, i3w, i4w, i5w, b1, b2, b3]
 obtain ⟨N, hN⟩ : ∃ N, N = (lst c).length := ⟨_, rfl⟩
 refine WC_for (lst c).length 0 (fun (j : Nat) env σ n => env 1 = .ptr 0 5 0 0 ∧ env 3 = .ptr 2 1 0 0 ∧ env 13 = slV 1 vecV c ∧ n = 3 ∧ σ 0 = some (.row 5 [.agg [slV 1 i32V q, .int .i64 k, .int .u64 ts, .int .i64 m, slV 1 vecV c]]) ∧
  σ 2 = some (.row 1 [.ref 1 0 (lst c).length 2]) ∧ σ 1 = some (.row 2 (fil q (lst c) j))) (by omega) (by decide) (by decide) (fun _ _ => rfl) (fun _ _ _ => rfl) ?_ ?_ _ _ _ rfl rfl ?_
 ·intro j env σ n hj h1 h2 ⟨g1, g2, g3, g4, g5, g6, g7⟩
  simp only [vl_tmp] at h2
  subst g4
  have hx : (lst c)[j]? = some (lst c)[j] := List.getElem?_eq_getElem hj
  have hm := List.getElem_mem hj
  have hst := fil_set q (lst c) j hj
  obtain ⟨o1, o2⟩ := hall _ hm
  have hxs := hv _ hm
  have hfl := fil_len q (lst c) j (by omega)
  have xg : (fil q (lst c) j)[j]? = some (.agg [.int .u64 0, .int .u64 0]) := by
   unfold fil
   rw [List.getElem?_append_right (by rw [hs_len, List.length_take, ctH_len]; omega), hs_len, List.length_take, ctH_len, Nat.min_eq_left (by omega), Nat.sub_self, List.getElem?_replicate, if_pos (by omega)]
   rfl
  generalize (lst c)[j] = x at *
  have hva : vAll x q = 0 := by unfold vAll; rw [o1, hq2]; simp [o2, hd]
  have f := f70 x q hxs hq
  have e1 : disE x q = 0 := hva
  have e2 : disV x q = distI x q := by unfold disV; rw [if_pos hva]
  rw [e1, e2] at f
  have wj : IntKind.u64.wrap ((j : Nat) : Int) = ((j : Nat) : Int) := by rw [wrap_u64] <;> omega
  simp +contextual -implicitDefEqProofs (maxSteps := 2000000) only [↓wP, wQ, wQ1, wQ2, wQ3, wR, boxE, partsOf, ↓reduceIte, n1w, n2w, n3w, n4w, n5w, n6w, reduceCtorEq, i1w, i2w, i3w, i4w, i5w, h1, h2, g1, g2, g3, g5, g6, g7, hx, vecV_eq, f, wj, hj, xg, hst]
 ·intro env σ n ⟨g1, g2, g3, g4, g5, g6, g7⟩ h1 h2
  subst g4
  have hfu : fil q (lst c) (lst c).length = hs (ctH q (lst c) 0) := by
   unfold fil
   rw [Nat.sub_self, List.replicate_zero, List.append_nil, List.take_of_length_le (by rw [ctH_len]; omega)]
  rw [hfu] at g7
  simp +contextual -implicitDefEqProofs (maxSteps := 2000000) only [↓wP, wQ, wQ1, wQ2, wQ3, wR, boxE, partsOf, ↓reduceIte, n1w, n2w, n3w, n4w, n5w, n6w, reduceCtorEq, i1w, i2w, i3w, i4w, i5w, g2, g6]
  refine stepW_raw (by decide) (raw46p (d := (ctH q (lst c) 0).toArray) (N := (lst c).length) (by simp [ctH_len]) 1 3 σ (by omega) (by rw [rw_hs]; exact g7) fun σ2 p1 p2 => ?_)
  have p3 : σ2 0 = some (.row 5 [.agg [slV 1 i32V q, .int .i64 k, .int .u64 ts, .int .i64 m, slV 1 vecV c]]) := by rw [p1 0 (by decide)]; exact g5
  have p4 : σ2 2 = some (.row 1 [.ref 1 0 (lst c).length 2]) := by rw [p1 2 (by decide)]; exact g6
  simp only [List.toList_toArray] at p2
  have fr : frz σ2 10 (.ref 1 0 (lst c).length 2) = some (.sl 2 (hs (srt (ctH q (lst c) 0)))) := by
   have he : elems σ2 2 (.ref 1 0 (lst c).length 2) = some (hs (srt (ctH q (lst c) 0))) := by
    have hlen : (hs (srt (ctH q (lst c) 0))).length = (lst c).length := by rw [hs_len, srt_len, ctH_len]
    simp only [elems, p2]
    rw [if_pos ⟨trivial, trivial, by omega⟩, List.drop_zero, List.take_of_length_le (by omega)]
   show (elems _ _ _).bind _ = _
   rw [he, Option.bind_some, mapM_id (fun x hx => by obtain ⟨h, _, rfl⟩ := List.mem_map.1 hx; rfl)]
   rfl
  simp +contextual -implicitDefEqProofs (maxSteps := 2000000) only [↓wP, wQ, wQ1, wQ2, wQ3, wR, boxE, partsOf, ↓reduceIte, n1w, n2w, n3w, n4w, n5w, n6w, reduceCtorEq, i1w, i2w, i3w, i4w, i5w, g1, g2, p3, p4, fr]
 ·simp +contextual -implicitDefEqProofs (maxSteps := 2000000) only [↓wP, wQ, wQ1, wQ2, wQ3, wR, boxE, partsOf, ↓reduceIte, n1w, n2w, n3w, n4w, n5w, n6w, reduceCtorEq, i1w, i2w, i3w, i4w, i5w]
  simp [fil, zh, hs]
end Go.Q.SY
end

section
/- The nearest centroids: what the program says. -/
namespace Go.Q.SY
open Go.Q Go.Sort
open Nat renaming reduceEqDiff → n1w, reduceAdd → n2w, reduceSub → n3w, reduceLeDiff → n4w, reduceLT → n5w, reduceMul → n6w
open Int renaming reduceBNe → i1w, reduceBEq → i2w, reduceLT → i3w, reduceLE → i4w, reduceGT → i5w
theorem yieldW_gs {T : Tab} {l : Nat} {args : List V} {σ : Sto} {n lk : Nat} {Q : V → Sto → Nat → Prop} {env : Nat → V} {ps : List Nat} {assign body : AC} {pend : Option Ex}
 (hl : σ l = some (.loop env ps assign body .ready pend)) (ha : args.length = ps.length) (hlk : lk ≤ l)
 (h : WC T assign (bindPs env ps args) σ n lk fun ex s => ex = .normal ∧ s.σ l = some (.loop env ps assign body .ready pend) ∧ s.lk = lk ∧
  WC T body s.env (upd s.σ l (some (.loop env ps assign body .busy pend))) s.n lk fun ex s' => s'.σ l = some (.loop env ps assign body .busy pend) ∧
   ((ex = .normal ∧ Q (.bool true) (upd s'.σ l (some (.loop env ps assign body .ready none))) s'.n) ∨ (ex = .ret ∧ Q (.bool false) (upd s'.σ l (some (.loop env ps assign body .done (some .ret)))) s'.n))) (hd : assign.det = true ∧ body.det = true := by exact ⟨rfl, rfl⟩) : yieldW (run T) l args σ n lk Q := by
 unfold yieldW
 simp only [hl]
 refine ⟨ha, hlk, run_step hd ?_⟩
 simp only [jobW]
 refine wpC_mono (fun _ _ x => x) run_mono _ _ _ _ (fun e s ⟨h1, h2, h3, h4⟩ => ?_) (WC_ok _ _ _ _ _ _ h)
 obtain ⟨env1, σ1, n1, lk1⟩ := s
 simp only at h2 h3 h4
 subst h3
 refine ⟨h1, env, ps, assign, body, pend, h2, wpC_mono (fun _ _ x => x) run_mono _ _ _ _ (fun e2 s2 ⟨k2, k3⟩ => ?_) (WC_ok _ _ _ _ _ _ h4)⟩
 refine ⟨⟨env, ps, assign, body, pend, k2⟩, env, ps, assign, body, pend, k2, ?_⟩
 rcases k3 with ⟨rfl, k3⟩ | ⟨rfl, k3⟩
 ·simpa using k3
 ·simpa using k3
def iV (i : Int) : V := .int .i64 i
theorem iV_eq (i : Int) : iV i = .int .i64 i := rfl
def ownI (l : List Int) : V := if l = [] then .nilS else .own 1 (l.map iV)
def iVal (n : Nat) (l : List Int) : V := if l = [] then .nilS else .ref n 0 l.length 1
def iSto (σ : Sto) (n : Nat) (l : List Int) : Sto := if l = [] then σ else upd σ n (some (.row 1 (l.map iV)))
def iN (n : Nat) (l : List Int) : Nat := if l = [] then n else n + 1
theorem iter48 (q : Vc) (k ts m : Int) (c : Option (List Vc)) (Hs : List Hit) (l : Nat) (J : Nat → Sto → Nat → Prop) (σ : Sto) (n : Nat) (hln : l < n) (hH : Hs.length < 1000000) (hid : ∀ h ∈ Hs, 0 ≤ h.id ∧ h.id < 1000000) (hm : 0 ≤ m)
 (hfr : ∀ j σ n σ' n', J j σ n → n ≤ n' → (∀ i, i < n → σ' i = σ i) → J j σ' n')
 (hy : ∀ j (hj : j < Hs.length) σ n, (j : Int) < m → J j σ n → l < n → yieldW (run T) l [.int .i64 Hs[j].id] σ n 0 (fun y σ' n' => n ≤ n' ∧ y = .bool true ∧ J (j + 1) σ' n'))
 (h0 : J 0 σ n) : run T (.raw 75 (.yld l :: [.box [.sl 2 (hs Hs)], .box (srcV q k ts m c)]) σ n 0) (memQ fun _ σ' n' => J (min m.toNat Hs.length) σ' n') := by
 refine run_rawE (fn := g75) rfl rfl ?_
 simp only [g75, b75, zO, zN, zM, zL, zG, zP, zQ, zI, zA, zT, zF, zB, zC, zD, zE, zH, zJ, zK, srcV]
 obtain ⟨MP, hMP⟩ : ∃ MP : Sto → Nat → Prop, MP = fun σ' n' => J (min m.toNat Hs.length) σ' n' := ⟨_, rfl⟩
 simp only [← congrFun (congrFun hMP _) _]
 have hle : lenE (.sl 2 (hs Hs)) = some (.int .i64 (Hs.length : Int)) := by simp [lenE, lenOf, hs_len]
 simp +contextual -implicitDefEqProofs (maxSteps := 2000000) only [↓wP, wS, seval, hle]
 refine WC_for Hs.length 0 (fun (j : Nat) env σ n => env 0 = .yld l ∧ env 2 = .box [slV 1 i32V q, .int .i64 k, .int .u64 ts, .int .i64 m, slV 1 vecV c] ∧ env 6 = .sl 2 (hs Hs) ∧ l < n ∧ (j : Int) ≤ m ∧ J j σ n) (by omega) (by decide) (by decide) (fun _ _ => rfl) (fun _ _ _ => rfl) ?_ ?_ _ _ _ rfl rfl ?_
 ·intro j env σ n hj h1 h2 ⟨h3, h4, h5, h6, h7, h8⟩
  simp only [vl_tmp] at h2
  have hm' := List.getElem_mem hj
  obtain ⟨i1, i2⟩ := hid _ hm'
  have hx : (hs Hs)[j]? = some (.agg [.int .u64 Hs[j].id, .int .u64 Hs[j].d]) := by
   simp [hs, hitV, hj]
  have hJ1 := hfr _ _ _ (upd (upd σ n (some (.row 2 [.agg [.int .u64 0, .int .u64 0]]))) n (some (.row 2 [.agg [.int .u64 Hs[j].id, .int .u64 Hs[j].d]]))) (n + 1) h8 (by omega) (fun i hi => by
   have : i ≠ n := by omega
   simp [upd, this])
  have hY := hy j hj
  have wi : IntKind.i64.wrap Hs[j].id = Hs[j].id := by rw [wrap_i64] <;> omega
  generalize Hs[j] = x at *
  by_cases hjm : (j : Int) = m
  ·have mp : MP (upd (upd σ n (some (.row 2 [.agg [.int .u64 0, .int .u64 0]]))) n (some (.row 2 [.agg [.int .u64 x.id, .int .u64 x.d]]))) (n + 1) := by
    rw [hMP]; dsimp only; rw [show min m.toNat Hs.length = j by omega]; exact hJ1
   have hjm' : ((j : Int) == m) = true := by simpa using hjm
   simp +contextual -implicitDefEqProofs (maxSteps := 2000000) only [↓wP, wS, seval, h1, h2, h3, h4, h5, hx, hjm']
   exact mp
  ·have hjm' : ((j : Int) == m) = false := by simpa using hjm
   simp +contextual -implicitDefEqProofs (maxSteps := 2000000) only [↓wP, wS, seval, h1, h2, h3, h4, h5, hx, hjm', wi]
   refine stepW_yld (yieldW_mono (fun _ _ x => x) run_mono (fun y σ' n' ⟨a1, a2, a3⟩ => ?_) (hY _ _ (by omega) hJ1 (by omega)))
   subst a2
   simp +contextual -implicitDefEqProofs (maxSteps := 2000000) only [↓wP, wS, seval, h1, h2, h3, h4, h5]
   exact ⟨by omega, by omega, a3⟩
 ·intro env σ n ⟨h3, h4, h5, h6, h7, h8⟩ h1 h2
  have mp : MP σ n := by rw [hMP]; dsimp only; rw [show min m.toNat Hs.length = Hs.length by omega]; exact h8
  simp +contextual -implicitDefEqProofs (maxSteps := 2000000) only [↓wP, wS, seval]
  exact mp
 ·simp +contextual -implicitDefEqProofs (maxSteps := 2000000) only [↓wP, wS, seval]
  exact ⟨hln, hm, h0⟩
theorem thaw_ownI (σ : Sto) (n : Nat) (l : List Int) : thaw σ n (ownI l) = (iVal n l, iSto σ n l, iN n l) := by
 cases l with
 | nil => rfl
 | cons x l =>
   unfold iVal iSto iN ownI
   rw [if_neg (by simp), if_neg (by simp), if_neg (by simp), if_neg (by simp), thaw_own, thawL_nw 12 (by
    intro y hy
    obtain ⟨z, -, rfl⟩ := List.mem_map.1 hy
    rfl), List.length_map]
theorem flat_iV (l : List Int) : flatL (l.map iV) = true := by
 induction l with
 | nil => rfl
 | cons x l ih => simp only [List.map_cons, flatL, iV, flat, Bool.true_and]; exact ih
theorem flat_ownI (l : List Int) : flat (ownI l) = true := by
 unfold ownI
 split
 ·rfl
 ·exact flat_iV l
theorem giv_none (σ : Sto) {e : Int} (h : e ≠ 0) (l : List Int) : giv σ 12 (.tup [.nilS, .int .i64 e]) = some (.tup [ownI (if e = 0 then l else []), .int .i64 e]) ∧ (gids σ 12 (.tup [.nilS, .int .i64 e])).Nodup := by
 rw [if_neg h]
 exact giv_tup2 ⟨rfl, by simp [gids]⟩ rfl rfl
theorem iV_giv {σ : Sto} {n : Nat} {l : List Int} {v : V} (h : Pl σ 3 n 1 v (oL (l.map iV))) : giv σ 11 v = some (ownI l) ∧ (gids σ 11 v).Nodup := by
 cases l with
 | nil => simp only [List.map_nil, oL, Pl] at h; subst h; exact ⟨rfl, by simp [gids]⟩
 | cons x l =>
   simp only [List.map_cons, oL, Pl] at h
   obtain ⟨i, rfl, h1, -, -⟩ := h
   have e : iV x :: l.map iV = (x :: l).map iV := rfl
   rw [e] at h1 ⊢
   unfold ownI
   rw [if_neg (by simp)]
   generalize x :: l = L at *
   have hg : ∀ x ∈ L.map iV, elemM (giv σ 10) x = some x := by
    intro x hx
    obtain ⟨y, -, rfl⟩ := List.mem_map.1 hx
    rfl
   have hg' : ∀ x ∈ L.map iV, ∀ c ∈ x.cells, gids σ 10 c = [] := by
    intro x hx c hc
    obtain ⟨y, -, rfl⟩ := List.mem_map.1 hx
    simp only [iV, V.cells, List.mem_cons, List.not_mem_nil, or_false] at hc
    subst hc; rfl
   constructor
   ·simp only [giv, h1, and_self, if_true]
    rw [mapM_id hg]; rfl
   ·simp only [gids, h1]
    rw [List.flatMap_eq_nil_iff.2 fun x hx => List.flatMap_eq_nil_iff.2 fun c hc => hg' x hx c hc]
    simp
def near (q : Vc) (c : List Vc) (m : Int) : List Int := ((srt (ctH q c 0)).take m.toNat).map (·.id)
def ask10 : AC := (.reg [⟨(some 13), none, .mov (.tmp 44)⟩])
def bd18 : AC := (.block 1 (.reg [⟨(some 45), none, .load false 1 (.tmp 12)⟩,
 ⟨(some 46), none, .mov (.tmp 13)⟩,
 ⟨(some 47), none, .lit 1 [(.tmp 46)]⟩,
 ⟨(some 48), none, .append 1 8 (.tmp 45) (.tmp 47)⟩,
 ⟨none, none, .store 1 (.tmp 12) (.tmp 48)⟩]))
theorem w_ask10 (env : Nat → V) (σ : Sto) (n lk : Nat) (Q : Ex → St → Prop) : WC T ask10 env σ n lk Q = WC T (.reg [⟨(some 13), none, .mov (.tmp 44)⟩]) env σ n lk Q := rfl
theorem w_bd18 (env : Nat → V) (σ : Sto) (n lk : Nat) (Q : Ex → St → Prop) : WC T bd18 env σ n lk Q = WC T (.block 1 (.reg [⟨(some 45), none, .load false 1 (.tmp 12)⟩,
 ⟨(some 46), none, .mov (.tmp 13)⟩,
 ⟨(some 47), none, .lit 1 [(.tmp 46)]⟩,
 ⟨(some 48), none, .append 1 8 (.tmp 45) (.tmp 47)⟩,
 ⟨none, none, .store 1 (.tmp 12) (.tmp 48)⟩])) env σ n lk Q := rfl
structure J10 (env : Nat → V) (ids : List Int) (j : Nat) (σ : Sto) (n : Nat) : Prop where
 hn : 3 ≤ n
 s2 : σ 2 = some (.loop env [44] ask10 bd18 .ready none)
 s1 : ∃ v, σ 1 = some (.row 1 [v]) ∧ Pl σ 3 n 1 v (oL ((ids.take j).map iV))
theorem J10.frame {env : Nat → V} {ids : List Int} {j : Nat} {σ σ' : Sto} {n n' : Nat} (h : J10 env ids j σ n) (hn : n ≤ n') (hs : ∀ i, i < n → σ' i = σ i) : J10 env ids j σ' n' := by
 obtain ⟨h1, h2, v, h3, h4⟩ := h
 exact ⟨by omega, by rw [hs 2 (by omega), h2], v, by rw [hs 1 (by omega), h3], h4.loc (fun i a b => hs i b) hn⟩
theorem hy18 (env : Nat → V) (ids : List Int) (he : env 12 = .ptr 1 1 0 0) (j : Nat) (hj : j < ids.length) (hI : ids.length < 1000000) (x : Int) (hx : ids[j] = x) (σ : Sto) (n : Nat) (hJ : J10 env ids j σ n) (hn : 2 < n) :
 yieldW (run T) 2 [.int .i64 x] σ n 0 (fun y σ' n' => n ≤ n' ∧ y = .bool true ∧ J10 env ids (j + 1) σ' n') := by
 obtain ⟨h1, h2, v, h3, h4⟩ := hJ
 refine yieldW_gs h2 rfl (Nat.zero_le _) ?_
 have q0 : (2 = n) = False := by simp; omega
 have q1 : (n = 2) = False := by simp; omega
 have p2 : (1 = n) = False := by simp; omega
 have hc := h4.cells
 have ho := h4.one
 simp +contextual -implicitDefEqProofs (maxSteps := 2000000) only [↓wP, wS, seval, bind_cons, bind_nil, w_ask10, w_bd18, he, h2, h3, q0, q1, p2, hc]
 have hlen : ((ids.take j).map iV).length = j := by rw [List.length_map, List.length_take]; omega
 refine stepW_app1 (m := 3) (n0 := n) (σ0 := σ) (o := oL ((ids.take j).map iV)) h4 (fun i g1 g2 => ?_) (by omega) (by omega) (Nat.zero_le _) ?_ (fun _ σ2 g1 g2 => ?_)
 ·have a1 : i ≠ n := by omega
  have a2 : i ≠ 2 := by omega
  simp [upd, a1, a2]
 ·rw [lst_oL, hlen]; unfold LIM; omega
 ·rw [lst_oL, hlen] at g1 ⊢
  have hv : ∀ i, i < 3 → ∀ off len s, v ≠ .ref i off len s := by
   intro i hi off len s e
   subst e
   cases ho' : oL ((ids.take j).map iV) with
   | none => rw [ho'] at h4; simp only [Pl] at h4; cases h4
   | some xs => rw [ho'] at h4; obtain ⟨j, e, -, e2, -⟩ := h4; simp only [V.ref.injEq] at e; omega
  have t1 : σ2 1 = some (.row 1 [v]) := by rw [g2 1 (by omega) (hv 1 (by omega))]; simp [upd, p2, h3]
  have t2 : σ2 2 = some (.loop env [44] ask10 bd18 .busy none) := by rw [g2 2 (by omega) (hv 2 (by omega))]; simp [upd, q0]
  have hsp : ∀ c, spliceC v 0 [c] = c := fun c => by
   cases ho' : oL ((ids.take j).map iV) with
   | none => rw [ho'] at h4; simp only [Pl] at h4; subst h4; rfl
   | some xs => rw [ho'] at h4; obtain ⟨j, rfl, -⟩ := h4; rfl
  simp +contextual -implicitDefEqProofs (maxSteps := 2000000) only [↓wP, wS, seval, he, t1, t2, hsp]
  have eo : oL ((ids.take (j + 1)).map iV) = some ((ids.take j).map iV ++ [.int .i64 x]) := by
   rw [show ids.take (j + 1) = ids.take j ++ [ids[j]] from (List.take_append_getElem hj).symm, List.map_append, hx]
   cases ids.take j <;> rfl
  refine .inl ⟨by omega, by omega, ?_, .ref (n + 1) 0 (j + 1) 1, ?_, ?_⟩
  ·simp [upd]
  ·simp [upd]
  ·rw [eo]
   exact g1.loc (fun i a1 a2 => by
    have b1 : i ≠ 1 := by omega
    have b2 : i ≠ 2 := by omega
    simp [upd, b1, b2]) (Nat.le_refl _)
theorem near_len (q : Vc) (c : List Vc) (m : Int) (hm : 0 ≤ m) : (near q c m).length = min m.toNat c.length := by
 unfold near; rw [List.length_map, List.length_take, srt_len, ctH_len]
theorem ct_id {q : Vc} {c : List Vc} {h : Hit} (hh : h ∈ srt (ctH q c 0)) : 0 ≤ h.id ∧ h.id < c.length := by
 have := (srt_perm _).mem_iff.1 hh
 obtain ⟨p, hp, rfl⟩ := List.mem_map.1 this
 have := List.mem_zipIdx hp
 simp only
 omega
theorem WC_env {T : Tab} {c : AC} {env : Nat → V} {σ : Sto} {n lk : Nat} {Q : Ex → St → Prop} (h : ∀ e, e = env → WC T c e σ n lk Q) : WC T c env σ n lk Q := h _ rfl
theorem r18 (c : Option (List Vc)) (v : Vc) (m : Int) (hl : (lst c).length ≤ 7) (hv : ∀ v ∈ lst c, Sm v) (hv' : Sm v) : res T 18 [slV 1 vecV c, slV 1 i32V v, .int .i64 m] = some (.tup [ownI (if nrE c v m = 0 then near v (lst c) m else []), .int .i64 (nrE c v m)]) := by
 refine run_res (run_own (fn := g18) rfl rfl (by decide) ?_)
 simp only [g18, b18, zO, zN, zM, zL, zG, zP, zQ, zI, zA, zT, zF, zB, zC, zD, zE, zH, zJ, zK]
 have f1 := f34 m
 have f2 := f46 v hv'
 have f3 := f37 c hl hv
 by_cases ha : askE m = 0
 ·have hm : 1 ≤ m := by unfold askE at ha; split at ha; cases ha; omega
  cases ho : okV v
  ·rw [ho] at f2
   rw [ha] at f1
   have e : nrE c v m = 150 := by unfold nrE; rw [if_neg (by omega), ho]; rfl
   rw [e]
   simp +contextual -implicitDefEqProofs (maxSteps := 2000000) only [↓wP, wQ, wQ1, wQ2, wQ3, wR, boxE, partsOf, ↓reduceIte, n1w, n2w, n3w, n4w, n5w, n6w, reduceCtorEq, i1w, i2w, i3w, i4w, i5w, f1, f2]
   exact giv_none _ (by decide) _
  ·rw [ho] at f2
   have e : nrE c v m = cnE c v := by unfold nrE; rw [if_neg (by omega), ho]; rfl
   rw [e]
   rw [ha] at f1
   by_cases ht : trE c = 0
   ·rw [ht] at f3
    have hne : lst c ≠ [] := by intro h; unfold trE at ht; rw [if_pos h] at ht; cases ht
    have hc : cents c = true := by
     unfold trE at ht; rw [if_neg hne] at ht
     cases h : cents c
     ·rw [h] at ht; cases ht
     ·rfl
    obtain ⟨v0, hv0, hd⟩ := dm_get hne
    by_cases hx : dm c = (lst v).length
    ·have hx' : (((lst v0).length : Int) != ((lst v).length : Int)) = false := by rw [← hd, hx]; simp
     have r := r42 v 0 0 m c hc hv hv' ho hx hne
     have f42 := callE_tr (by decide) r (by simp [srcV, Tr, Tr_slV]) (by simp [srcV, Nw])
     have e1 : cnE c v = 0 := by unfold cnE; rw [if_neg (by omega), if_pos hx]
     rw [e1]
     simp only [srcV] at f42
     simp +contextual -implicitDefEqProofs (maxSteps := 2000000) only [↓wP, wQ, wQ1, wQ2, wQ3, wR, boxE, partsOf, ↓reduceIte, n1w, n2w, n3w, n4w, n5w, n6w, reduceCtorEq, i1w, i2w, i3w, i4w, i5w, f1, f2, f3, hv0, vecV_eq, hx', f42]
     refine WC_env fun env hE => ?_
     have e43 : env 43 = .fn 75 [.box [.sl 2 (hs (srt (ctH v (lst c) 0)))], .box (srcV v 0 0 m c)] := by rw [hE]; rfl
     have e12 : env 12 = .ptr 1 1 0 0 := by rw [hE]; rfl
     clear hE
     have hlen : (srt (ctH v (lst c) 0)).length = (lst c).length := by rw [srt_len, ctH_len]
     have hnl : (near v (lst c) m).length = min m.toNat (lst c).length := near_len _ _ _ (by omega)
     refine WC_rangeF (f := 75) (caps := _) e43 (Nat.zero_le _) ?_
     refine run_mono _ _ _ (fun o ho => ?_) (iter48 v 0 0 m c (srt (ctH v (lst c) 0)) 2 (fun j σ n => J10 env (near v (lst c) m) j σ n) _ 3 (by omega) (by omega) (fun h hh => by have := ct_id hh; omega) (by omega) ?_ ?_ ?_)
     ·cases o <;> try exact ho.elim
      rename_i vv σ' n'
      obtain ⟨h1, h2, u, h3, h4⟩ := ho
      refine ⟨_, _, _, _, _, _, h2, by decide, ?_⟩
      rw [hlen, ← hnl, List.take_length] at h4
      have t1 : upd σ' 2 none 1 = some (.row 1 [u]) := by simp [upd, h3]
      have hc := h4.cells
      have hp := h4.loc (σ' := upd σ' 2 none) (fun i a b => by
       have : i ≠ 2 := by omega
       simp [upd, this]) (Nat.le_refl _)
      have ho := h4.one
      have hg := iV_giv hp
      simp +contextual -implicitDefEqProofs (maxSteps := 2000000) only [↓wP, wQ, wQ1, wQ2, wQ3, wR, boxE, partsOf, ↓reduceIte, n1w, n2w, n3w, n4w, n5w, n6w, reduceCtorEq, i1w, i2w, i3w, i4w, i5w, Option.getD_none, e12, h3, hc, ho]
      exact giv_tup2 hg rfl rfl
     ·exact fun j σ n σ' n' h a b => h.frame a b
     ·intro j hj σ n hjm hJ hn
      have hj2 : j < (near v (lst c) m).length := by omega
      exact hy18 env _ e12 j hj2 (by omega) _ (by simp [near]) σ n hJ hn
     ·exact ⟨by omega, by rfl, .nilS, by simp [upd], by simp [oL, Pl]⟩
    ·have hx' : (((lst v0).length : Int) != ((lst v).length : Int)) = true := by rw [← hd]; simp; omega
     have e1 : cnE c v = 151 := by unfold cnE; rw [if_neg (by omega), if_neg hx]
     rw [e1]
     simp +contextual -implicitDefEqProofs (maxSteps := 2000000) only [↓wP, wQ, wQ1, wQ2, wQ3, wR, boxE, partsOf, ↓reduceIte, n1w, n2w, n3w, n4w, n5w, n6w, reduceCtorEq, i1w, i2w, i3w, i4w, i5w, f1, f2, f3, hv0, vecV_eq, hx']
     exact giv_none _ (by decide) _
   ·have ht' : (trE c != 0) = true := by simpa using ht
    have e1 : cnE c v = trE c := by unfold cnE; rw [if_pos ht]
    rw [e1]
    simp +contextual -implicitDefEqProofs (maxSteps := 2000000) only [↓wP, wQ, wQ1, wQ2, wQ3, wR, boxE, partsOf, ↓reduceIte, n1w, n2w, n3w, n4w, n5w, n6w, reduceCtorEq, i1w, i2w, i3w, i4w, i5w, f1, f2, f3, ht']
    exact giv_none _ ht _
 ·have ha' : (askE m != 0) = true := by simpa using ha
  have e : nrE c v m = askE m := by unfold nrE; rw [if_pos ha]
  rw [e]
  simp +contextual -implicitDefEqProofs (maxSteps := 2000000) only [↓wP, wQ, wQ1, wQ2, wQ3, wR, boxE, partsOf, ↓reduceIte, n1w, n2w, n3w, n4w, n5w, n6w, reduceCtorEq, i1w, i2w, i3w, i4w, i5w, f1, ha']
  exact giv_none _ ha _
end Go.Q.SY
end

section
/- The nearest centroids: what the document says. -/
namespace Go.Q.SY
open Go.Q Go.Sort
def bst (out : List Int) (D : Nat → Int) : Nat → Int
 | 0 => -1
 | i + 1 => if (i : Int) ∈ out then bst out D i else if 0 ≤ bst out D i ∧ D (bst out D i).toNat ≤ D i then bst out D i else i
theorem bst_spec (out : List Int) (D : Nat → Int) : ∀ i, (bst out D i = -1 ∧ ∀ i' < i, (i' : Int) ∈ out) ∨ ∃ b : Nat, bst out D i = b ∧ b < i ∧ (b : Int) ∉ out ∧ ∀ i' < i, (i' : Int) ∉ out → D b < D i' ∨ (D b = D i' ∧ b ≤ i')
 | 0 => .inl ⟨rfl, fun i' h => by omega⟩
 | i + 1 => by
   unfold bst
   by_cases hm : (i : Int) ∈ out
   ·rw [if_pos hm]
    rcases bst_spec out D i with ⟨h1, h2⟩ | ⟨b, h1, h2, h3, h4⟩
    ·refine .inl ⟨h1, fun i' h => ?_⟩
     by_cases hi : i' = i
     ·subst hi; exact hm
     ·exact h2 i' (by omega)
    ·refine .inr ⟨b, h1, by omega, h3, fun i' h hn => ?_⟩
     by_cases hi : i' = i
     ·subst hi; exact absurd hm hn
     ·exact h4 i' (by omega) hn
   ·rw [if_neg hm]
    rcases bst_spec out D i with ⟨h1, h2⟩ | ⟨b, h1, h2, h3, h4⟩
    ·rw [h1, if_neg (by omega)]
     refine .inr ⟨i, rfl, by omega, hm, fun i' h hn => ?_⟩
     by_cases hi : i' = i
     ·subst hi; exact .inr ⟨rfl, Nat.le_refl _⟩
     ·exact absurd (h2 i' (by omega)) hn
    ·rw [h1]
     by_cases hd : D b ≤ D i
     ·rw [if_pos ⟨by omega, by simpa using hd⟩]
      refine .inr ⟨b, rfl, by omega, h3, fun i' h hn => ?_⟩
      by_cases hi : i' = i
      ·subst hi; omega
      ·exact h4 i' (by omega) hn
     ·rw [if_neg (by rintro ⟨-, h⟩; exact hd (by simpa using h))]
      refine .inr ⟨i, rfl, by omega, hm, fun i' h hn => ?_⟩
      by_cases hi : i' = i
      ·subst hi; exact .inr ⟨rfl, Nat.le_refl _⟩
      ·have := h4 i' (by omega) hn; omega
def dis (q : Vc) (c : List Vc) (i : Nat) : Int := distI ((c[i]?).getD none) q
theorem ct_get {q : Vc} {c : List Vc} {h : Hit} (hh : h ∈ ctH q c 0) : ∃ x : Nat, x < c.length ∧ h = ⟨x, dis q c x⟩ := by
 obtain ⟨i, hi, rfl⟩ := List.mem_iff_getElem.1 hh
 rw [ctH_len] at hi
 have := ctH_get q c i hi
 rw [List.getElem?_eq_getElem (by rw [ctH_len]; exact hi)] at this
 refine ⟨i, hi, ?_⟩
 rw [Option.some.inj this]
 simp [dis, hi]
theorem ct_mem (q : Vc) (c : List Vc) (x : Nat) (h : x < c.length) : (⟨x, dis q c x⟩ : Hit) ∈ ctH q c 0 := by
 have := ctH_get q c x h
 have := List.mem_of_getElem? this
 simpa [dis, h] using this
theorem ct_nodup (q : Vc) (c : List Vc) : ((srt (ctH q c 0)).map (·.id)).Nodup := by
 refine ((srt_perm _).map _).nodup_iff.2 ?_
 have : (ctH q c 0).map (·.id) = (List.range c.length).map (fun i : Nat => (i : Int)) := by
  refine List.ext_getElem? fun i => ?_
  simp only [List.getElem?_map, ctH, List.getElem?_zipIdx, List.map_map]
  by_cases h : i < c.length
  ·simp [h]
  ·simp [h]
 rw [this]
 unfold List.Nodup
 rw [List.pairwise_map]
 exact List.nodup_range.imp (fun h e => h (by omega))
theorem pick_bst (q : Vc) (c : List Vc) (P R : List Hit) (h : Hit) (hp : (P ++ h :: R).Perm (ctH q c 0)) (hs : Srt (P ++ h :: R)) (hnd : ((P ++ h :: R).map (·.id)).Nodup) : bst (P.map (·.id)) (dis q c) c.length = h.id := by
 have hm : h ∈ P ++ h :: R := by simp
 obtain ⟨x, hx, he⟩ := ct_get (hp.mem_iff.1 hm)
 simp only [List.map_append, List.map_cons, List.nodup_append, List.mem_cons, List.mem_map, List.mem_append] at hnd
 have hxo : (x : Int) ∉ P.map (·.id) := by
  intro hc
  obtain ⟨g, hg, e⟩ := List.mem_map.1 hc
  exact hnd.2.2 g.id ⟨g, hg, rfl⟩ h.id (.inl rfl) (by rw [he, e])
 rcases bst_spec (P.map (·.id)) (dis q c) c.length with ⟨h1, h2⟩ | ⟨b, h1, h2, h3, h4⟩
 ·exact absurd (h2 x hx) hxo
 ·rw [h1, he]
  have hb := hp.mem_iff.2 (ct_mem q c b h2)
  rcases List.mem_append.1 hb with hb | hb
  ·exact absurd (List.mem_map.2 ⟨_, hb, rfl⟩) h3
  ·rcases List.mem_cons.1 hb with hb | hb
   ·rw [he] at hb
    exact congrArg Hit.id hb
   ·have h5 := (List.pairwise_cons.1 (List.pairwise_append.1 hs).2.1).1 _ hb
    have h6 := h4 x hx hxo
    rw [he] at h5
    unfold ahead at h5
    simp only [Bool.or_eq_false_iff, Bool.and_eq_false_iff, decide_eq_false_iff_not, beq_eq_false_iff_ne] at h5
    show (b : Int) = x
    omega
theorem near_bst (q : Vc) (c : List Vc) (j : Nat) (hj : j < (srt (ctH q c 0)).length) : bst (((srt (ctH q c 0)).take j).map (·.id)) (dis q c) c.length = ((srt (ctH q c 0))[j]).id := by
 have hsp : (srt (ctH q c 0)).take j ++ (srt (ctH q c 0))[j] :: (srt (ctH q c 0)).drop (j + 1) = srt (ctH q c 0) := by rw [← List.drop_eq_getElem_cons (by omega), List.take_append_drop]
 exact pick_bst q c _ ((srt (ctH q c 0)).drop (j + 1)) _ (by rw [hsp]; exact srt_perm _) (by rw [hsp]; exact srt_srt _) (by rw [hsp]; exact ct_nodup q c)
theorem r31 (o : Option (List Int)) (x : Int) (hl : (lst o).length < 9223372036854775808) : res T 31 [slV 1 iV o, .int .i64 x] = some (.bool (decide (x ∈ lst o))) := by
 refine run_res (run_pure (fn := g31) rfl rfl (by decide) ?_)
 simp only [g31, b31, zO, zN, zM, zL, zG, zP, zQ, zI, zA, zT, zF, zB, zC, zD, zE, zH, zJ, zK]
 simp +contextual -implicitDefEqProofs (maxSteps := 2000000) only [↓wP, wS, seval]
 refine WC_for (lst o).length 0 (fun (j : Nat) env _ _ => env 1 = .int .i64 x ∧ env 7 = slV 1 iV o ∧ decide (x ∈ lst o) = decide (x ∈ (lst o).drop j)) (by omega) (by decide) (by decide) (fun _ _ => rfl) (fun _ _ _ => rfl) ?_ ?_ _ _ _ rfl rfl ?_
 ·intro j env σ n hj h1 h2 ⟨h3, h4, h5⟩
  simp only [vl_tmp] at h2
  have hx : (lst o)[j]? = some (lst o)[j] := List.getElem?_eq_getElem hj
  rw [List.drop_eq_getElem_cons hj] at h5
  generalize (lst o)[j] = y at *
  by_cases he : y = x
  ·subst he
   simp +contextual -implicitDefEqProofs (maxSteps := 2000000) only [↓wP, wS, seval, h1, h2, h3, h4, hx, iV_eq]
   rw [h5]; simp
  ·have he' : (y == x) = false := by simpa using he
   simp +contextual -implicitDefEqProofs (maxSteps := 2000000) only [↓wP, wS, seval, h1, h2, h3, h4, hx, iV_eq, he']
   rw [h5]; simp [Ne.symm he]
 ·intro env σ n ⟨h3, h4, h5⟩ h1 h2
  rw [List.drop_length] at h5
  simp +contextual -implicitDefEqProofs (maxSteps := 2000000) only [↓wP, wS, seval]
  rw [h5]; rfl
 ·simp +contextual -implicitDefEqProofs (maxSteps := 2000000) only [↓wP, wS, seval]
def f31 (o : Option (List Int)) (x : Int) (hl : (lst o).length < 9223372036854775808) := callE_tr (by decide) (r31 o x hl) (by simp [Tr, Tr_slV]) rfl
theorem f27p {σ : Sto} {m n : Nat} {v : V} {l : List Int} (h : Pl σ m n 1 v (oL (l.map iV))) (x : Int) (hl : l.length < 1000000) (fs : Bool) (n' lk : Nat) : callE T fs 31 [v, .int .i64 x] σ n' lk = some (.bool (decide (x ∈ l)), σ, n') := by
 have hf := h.frz (fun x hx => by rw [lst_oL] at hx; obtain ⟨y, -, rfl⟩ := List.mem_map.1 hx; rfl) (fun x hx c hc => by
  rw [lst_oL] at hx; obtain ⟨y, -, rfl⟩ := List.mem_map.1 hx
  simp only [iV, V.cells, List.mem_cons, List.not_mem_nil, or_false] at hc
  subst hc; rfl)
 have e : [v, V.int .i64 x].mapM (frz σ 12) = some [slV 1 iV (oL l), .int .i64 x] := by
  rw [slV_oL] at hf
  simp only [List.mapM_cons, List.mapM_nil, hf, frz_int]; rfl
 have r := r31 (oL l) x (by rw [lst_oL]; omega)
 rw [lst_oL] at r
 rw [callE_flat (by decide) e r rfl]; rfl
end Go.Q.SY
end

section
/- The nearest centroids: the document's walk. -/
namespace Go.Q.SY
open Go.Q Go.Sort
theorem r29 (c : Option (List Vc)) (q : Vc) (m : Int) (hl : (lst c).length ≤ 7) (h2 : ∀ v ∈ lst c, Two v q) (hm : 1 ≤ m) : res T 29 [slV 1 vecV c, slV 1 i32V q, .int .i64 m] = some (slV 1 iV (oL (near q (lst c) m))) := by
 refine run_res (run_pure (fn := g29) rfl rfl (by decide) ?_)
 simp only [g29, b29, zO, zN, zM, zL, zG, zP, zQ, zI, zA, zT, zF, zB, zC, zD, zE, zH, zJ, zK]
 obtain ⟨S, hS⟩ : ∃ S, S = srt (ctH q (lst c) 0) := ⟨_, rfl⟩
 have hlen : S.length = (lst c).length := by rw [hS, srt_len, ctH_len]
 have hb := near_bst q (lst c)
 rw [← hS] at hb
 unfold near
 rw [← hS]
 clear hS
 obtain ⟨N, hN⟩ : ∃ N, N = min m.toNat (lst c).length := ⟨_, rfl⟩
 have hmin : (if ((lst c).length : Int) < m then ((lst c).length : Int) else m) = (N : Int) := by split <;> omega
 simp +contextual -implicitDefEqProofs (maxSteps := 2000000) only [↓wP, wS, seval]
 refine WC_loopI 0 (fun (j : Nat) env σ n => j ≤ N ∧ env 0 = slV 1 vecV c ∧ env 1 = slV 1 i32V q ∧ env 2 = .int .i64 m ∧ ∃ v, env 7 = v ∧ Pl σ 0 n 1 v (oL (((S.take j).map (·.id)).map iV))) (fun j => N - j) ?_ 0 _ _ _ ?_
 ·intro j env σ n ⟨g1, g2, g3, g4, v, g5, g6⟩
  have hc := g6.cells
  have ho := g6.one
  have hjl : ((S.take j).map (·.id)).length = j := by rw [List.length_map, List.length_take]; omega
  have hle : lenE v = some (.int .i64 (j : Int)) := by
   have : (((S.take j).map (·.id)).map iV).length = j := by rw [List.length_map, hjl]
   cases ho' : oL (((S.take j).map (·.id)).map iV) with
   | none => 
     rw [ho'] at g6; simp only [Pl] at g6; subst g6
     cases hx : ((S.take j).map (·.id)).map iV with
     | nil => rw [hx] at this; simp at this; subst this; rfl
     | cons a b => rw [hx] at ho'; cases ho'
   | some xs =>
     rw [ho'] at g6; obtain ⟨i, rfl, -⟩ := g6
     have e : xs = ((S.take j).map (·.id)).map iV := by have := congrArg lst ho'; rw [lst_oL] at this; exact this.symm
     rw [e, this]; rfl
  by_cases hj : j < N
  ·have hj' : (j : Int) < (N : Int) := by omega
   simp +contextual -implicitDefEqProofs (maxSteps := 2000000) only [↓wP, wS, seval, g2, g3, g4, g5, hle, hj', hmin]
   obtain ⟨out, hout⟩ : ∃ out, out = (S.take j).map (·.id) := ⟨_, rfl⟩
   rw [← hout] at g6 hjl
   refine WC_for (lst c).length 0 (fun (i : Nat) env σ' n' => σ' = σ ∧ n' = n ∧ env 0 = slV 1 vecV c ∧ env 1 = slV 1 i32V q ∧ env 2 = .int .i64 m ∧ env 7 = v ∧ env 8 = .int .i64 (bst out (dis q (lst c)) i)) (by omega) (by decide) (by decide) (fun _ _ => rfl) (fun _ _ _ => rfl) ?_ ?_ _ _ _ rfl rfl ?_
   ·intro i env σ' n' hi e1 e2 ⟨k1, k2, k3, k4, k5, k6, k7⟩
    subst k1 k2
    simp only [vl_tmp] at e2
    have f31' := f27p g6 (i : Int) (by omega)
    have hx : (lst c)[i]? = some (lst c)[i] := List.getElem?_eq_getElem hi
    have hst : bst out (dis q (lst c)) (i + 1) = if (i : Int) ∈ out then bst out (dis q (lst c)) i else if 0 ≤ bst out (dis q (lst c)) i ∧ dis q (lst c) (bst out (dis q (lst c)) i).toNat ≤ dis q (lst c) i then bst out (dis q (lst c)) i else i := rfl
    rcases bst_spec out (dis q (lst c)) i with ⟨b1, -⟩ | ⟨b, b1, b2, -, -⟩
    ·rw [b1] at k7 hst
     by_cases hm : (i : Int) ∈ out
     ·rw [if_pos hm] at hst
      simp +contextual -implicitDefEqProofs (maxSteps := 2000000) only [↓wP, wS, seval, e1, e2, k3, k4, k5, k6, k7, f31', hm]
      exact congrArg (V.int .i64) hst.symm
     ·rw [if_neg hm, if_neg (by omega)] at hst
      have z : (0 : Int) ≤ -1 ↔ False := by decide
      simp +contextual -implicitDefEqProofs (maxSteps := 2000000) only [↓wP, wS, seval, e1, e2, k3, k4, k5, k6, k7, f31', hm, z]
      exact congrArg (V.int .i64) hst.symm
    ·rw [b1] at k7 hst
     by_cases hm : (i : Int) ∈ out
     ·rw [if_pos hm] at hst
      simp +contextual -implicitDefEqProofs (maxSteps := 2000000) only [↓wP, wS, seval, e1, e2, k3, k4, k5, k6, k7, f31', hm]
      exact congrArg (V.int .i64) hst.symm
     ·rw [if_neg hm] at hst
      have hbl : b < (lst c).length := by omega
      have hxb : (lst c)[b]? = some (lst c)[b] := List.getElem?_eq_getElem hbl
      have d1 := f67 (lst c)[i] q (h2 _ (List.getElem_mem hi))
      have d2 := f67 (lst c)[b] q (h2 _ (List.getElem_mem hbl))
      have q1 : dis q (lst c) i = distI (lst c)[i] q := by simp [dis, hi]
      have q2 : dis q (lst c) b = distI (lst c)[b] q := by simp [dis, hbl]
      have z : (0 : Int) ≤ (b : Int) := by omega
      rw [Int.toNat_natCast, q1, q2] at hst
      generalize (lst c)[i] = x at *
      generalize (lst c)[b] = y at *
      by_cases hd : distI y q ≤ distI x q
      ·rw [if_pos ⟨z, hd⟩] at hst
       simp +contextual -implicitDefEqProofs (maxSteps := 2000000) only [↓wP, wS, seval, e1, e2, k3, k4, k5, k6, k7, f31', hm, z, hx, hxb, vecV_eq, d1, d2, hd]
       exact congrArg (V.int .i64) hst.symm
      ·rw [if_neg (by rintro ⟨-, h⟩; exact hd h)] at hst
       simp +contextual -implicitDefEqProofs (maxSteps := 2000000) only [↓wP, wS, seval, e1, e2, k3, k4, k5, k6, k7, f31', hm, z, hx, hxb, vecV_eq, d1, d2, hd]
       exact congrArg (V.int .i64) hst.symm
   ·intro env σ' n' ⟨k1, k2, k3, k4, k5, k6, k7⟩ e1 e2
    subst k1 k2
    have hbj := hb j (by omega)
    rw [← hout] at hbj
    rw [hbj] at k7
    simp +contextual -implicitDefEqProofs (maxSteps := 2000000) only [↓wP, wS, seval, k3, k4, k5, k6, k7]
    have hlen1 : (out.map iV).length = j := by rw [List.length_map, hjl]
    refine stepW_app1 (m := 0) (n0 := n') (σ0 := σ') (o := oL (out.map iV)) g6 (fun i a1 a2 => ?_) (by omega) (by omega) (Nat.zero_le _) ?_ (fun _ σ2 a1 a2 => ?_)
    ·have a3 : i ≠ n' := by omega
     simp [upd, a3]
    ·rw [lst_oL, hlen1]; unfold LIM; omega
    ·rw [lst_oL, hlen1] at a1 ⊢
     simp +contextual -implicitDefEqProofs (maxSteps := 2000000) only [↓wP, wS, seval, k3, k4, k5, k6]
     refine ⟨j + 1, by omega, by omega, _, rfl, ?_⟩
     have eo : oL (((S.take (j + 1)).map (·.id)).map iV) = some (out.map iV ++ [.int .i64 (S[j]'(by omega)).id]) := by
      rw [show S.take (j + 1) = S.take j ++ [S[j]'(by omega)] from (List.take_append_getElem (by omega)).symm, List.map_append, ← hout]
      rw [List.map_append]
      cases out <;> rfl
     rw [eo]
     exact a1
   ·simp +contextual -implicitDefEqProofs (maxSteps := 2000000) only [↓wP, wS, seval, g2, g3, g4, g5]
    rfl
  ·have hj' : ¬ (j : Int) < (N : Int) := by omega
   simp +contextual -implicitDefEqProofs (maxSteps := 2000000) only [↓wP, wS, seval, g2, g3, g4, g5, hle, hj', hmin]
   have e : S.take m.toNat = S.take j := by
    by_cases hmj : m.toNat ≤ (lst c).length
    ·rw [show m.toNat = j by omega]
    ·rw [List.take_of_length_le (by omega), List.take_of_length_le (by omega)]
   rw [e]
   have hf := g6.frz (fun x hx => by rw [lst_oL] at hx; obtain ⟨y, -, rfl⟩ := List.mem_map.1 hx; rfl) (fun x hx c hc => by
    rw [lst_oL] at hx; obtain ⟨y, -, rfl⟩ := List.mem_map.1 hx
    simp only [iV, V.cells, List.mem_cons, List.not_mem_nil, or_false] at hc
    subst hc; rfl)
   rw [hf, slV_oL]
 ·simp +contextual -implicitDefEqProofs (maxSteps := 2000000) only [↓wP, wS, seval]
  simp [oL, Pl]
def f29 (c : Option (List Vc)) (q : Vc) (m : Int) (hl : (lst c).length ≤ 7) (h2 : ∀ v ∈ lst c, Two v q) (hm : 1 ≤ m) := callE_tr (by decide) (r29 c q m hl h2 hm) (by simp [Tr, Tr_slV]) (Nw_slV _ _ _ _)
end Go.Q.SY
end

section
/- Vectors that can be gone through. -/
namespace Go.Q.SY
open Go.Q Go.Sort
theorem r19 (v : Vc) (hv : Sm v) : res T 19 [slV 1 i32V v] = some (slV 1 i32V (some ((lst v).take 5))) := by
 refine run_res (run_pure (fn := g19) rfl rfl (by decide) ?_)
 simp only [g19, b19, zO, zN, zM, zL, zG, zP, zQ, zI, zA, zT, zF, zB, zC, zD, zE, zH, zJ, zK]
 obtain ⟨N, hN⟩ : ∃ N, N = min (lst v).length 5 := ⟨_, rfl⟩
 have hmin : (if (5 : Int) < ((lst v).length : Int) then (5 : Int) else ((lst v).length : Int)) = (N : Int) := by split <;> omega
 unfold Sm at hv
 have hNl : N ≤ (lst v).length := by omega
 have hs : lst (sub v 0 N) = (lst v).take 5 := by
  rw [show (lst v).take 5 = (lst v).take N by rw [hN]; exact (List.take_eq_take_min).trans (by rw [Nat.min_comm])]
  cases v <;> simp [sub, lst]
 have hl5 : ((lst v).take 5).length ≤ 5 := by rw [List.length_take]; omega
 have hL : (((lst v).take 5).map i32V).length * 4 ≤ LIM := by rw [List.length_map]; unfold LIM; omega
 generalize (lst v).take 5 = L at *
 simp +contextual -implicitDefEqProofs (maxSteps := 2000000) only [↓wP, wS, seval, hmin, hNl, hs, hL, true_or]
 have e1 : elems (upd (upd (upd Sto.empty 0 (some (Ob.row 1 []))) 0 none) 1 (some (Ob.row 1 (L.map i32V)))) 1 (.ref 1 0 (L.map i32V).length 1) = some (L.map i32V) := by simp [elems, upd]; exact List.take_of_length_le (by simp)
 show (elems _ _ _).bind _ = _
 rw [e1, Option.bind_some, mapM_id (fun x hx => by obtain ⟨y, -, rfl⟩ := List.mem_map.1 hx; rfl)]
 rfl
def cut (v : Vc) : Vc := some ((lst v).take 5)
theorem f19 (v : Vc) (hv : Sm v) (fs : Bool) (σ : Sto) (n lk : Nat) : callE T fs 19 [slV 1 i32V v] σ n lk = some (slV 1 i32V (cut v), σ, n) :=
 callE_tr (by decide) (r19 v hv) (by simp [Tr, Tr_slV]) (Nw_slV _ _ _ _) fs σ n lk
theorem spl {σ : Sto} {m n sz : Nat} {v : V} {o : Option (List V)} (h : Pl σ m n sz v o) (c : V) : spliceC v 0 [c] = c := by
 cases o with
 | none => simp only [Pl] at h; subst h; rfl
 | some xs => obtain ⟨j, rfl, -⟩ := h; rfl
def cutV (l : Option (List Vc)) : Option (List Vc) := oL (((lst l).take 7).map cut)
theorem r15 (l : Option (List Vc)) (hl : (lst l).length < 4611686018427387904) (hv : ∀ v ∈ lst l, Sm v) : res T 15 [slV 1 vecV l] = some (slV 1 vecV (cutV l)) := by
 refine run_res (run_pure (fn := g15) rfl rfl (by decide) ?_)
 simp only [g15, b15, zO, zN, zM, zL, zG, zP, zQ, zI, zA, zT, zF, zB, zC, zD, zE, zH, zJ, zK]
 simp +contextual -implicitDefEqProofs (maxSteps := 2000000) only [↓wP, wS, seval]
 refine WC_for (lst l).length 0 (fun (j : Nat) env σ n => env 6 = slV 1 vecV l ∧ ∃ v, env 3 = v ∧ Pl σ 0 n 1 v (oL ((((lst l).take (min j 7)).map cut).map vecV))) (by omega) (by decide) (by decide) (fun _ _ => rfl) (fun _ _ _ => rfl) ?_ ?_ _ _ _ rfl rfl ?_
 ·intro j env σ n hj h1 h2 ⟨h3, v, h4, h5⟩
  simp only [vl_tmp] at h2
  have hx : (lst l)[j]? = some (lst l)[j] := List.getElem?_eq_getElem hj
  have f := f19 _ (hv _ (List.getElem_mem hj))
  have ht : (lst l).take (j + 1) = (lst l).take j ++ [(lst l)[j]] := (List.take_append_getElem hj).symm
  generalize (lst l)[j] = x at *
  have hc := h5.cells
  have ho := h5.one
  have hsp := spl h5
  by_cases h6 : (j : Int) ≤ 6
  ·rw [show min j 7 = j by omega] at h5
   have hlen : ((((lst l).take j).map cut).map vecV).length = j := by rw [List.length_map, List.length_map, List.length_take]; omega
   simp +contextual -implicitDefEqProofs (maxSteps := 2000000) only [↓wP, wS, seval, h1, h2, h3, h4, hx, vecV_eq, h6, f]
   refine stepW_app1 (m := 0) (n0 := n) (σ0 := σ) h5 (fun i g1 g2 => ?_) (by omega) (by omega) (Nat.zero_le _) ?_ (fun _ σ2 g1 g2 => ?_)
   ·have a1 : i ≠ n := by omega
    simp [upd, a1]
   ·rw [lst_oL, hlen]; unfold LIM; omega
   ·rw [lst_oL, hlen] at g1 ⊢
    simp +contextual -implicitDefEqProofs (maxSteps := 2000000) only [↓wP, wS, seval, h1, h2, h3, hc, hsp]
    refine ⟨_, rfl, ?_⟩
    rw [show min (j + 1) 7 = j + 1 by omega, ht, List.map_append, List.map_append]
    have eo : oL (((lst l).take j).map cut |>.map vecV) = oL (((lst l).take j).map cut |>.map vecV) := rfl
    have e2 : oL ((((lst l).take j).map cut).map vecV ++ [vecV (cut x)]) = some ((((lst l).take j).map cut).map vecV ++ [vecV (cut x)]) := by
     cases ((lst l).take j) <;> rfl
    simp only [List.map_cons, List.map_nil]
    rw [e2]
    exact g1
  ·simp +contextual -implicitDefEqProofs (maxSteps := 2000000) only [↓wP, wS, seval, h1, h2, h3, h4, hx, vecV_eq, h6]
   rw [show min (j + 1) 7 = min j 7 by omega]
   exact ⟨_, rfl, h5⟩
 ·intro env σ n ⟨h3, v, h4, h5⟩ h1 h2
  simp +contextual -implicitDefEqProofs (maxSteps := 2000000) only [↓wP, wS, seval, h4]
  have hf := h5.frz (fun x hx => by rw [lst_oL] at hx; obtain ⟨y, -, rfl⟩ := List.mem_map.1 hx; exact Tr_slV _ _ _ _) (fun x hx c hc => by
   rw [lst_oL] at hx; obtain ⟨y, -, rfl⟩ := List.mem_map.1 hx
   rw [vecV_eq, cl_slV, List.mem_singleton] at hc
   subst hc; exact Tr_slV _ _ _ _)
  rw [hf, slV_oL]
  have : (lst l).take (min (lst l).length 7) = (lst l).take 7 := by rw [Nat.min_comm]; exact List.take_eq_take_min.symm
  rw [this]; rfl
 ·simp +contextual -implicitDefEqProofs (maxSteps := 2000000) only [↓wP, wS, seval]
  simp [oL, Pl]
def f15 (l : Option (List Vc)) (hl : (lst l).length < 4611686018427387904) (hv : ∀ v ∈ lst l, Sm v) := callE_tr (by decide) (r15 l hl hv) (by simp [Tr, Tr_slV]) (Nw_slV _ _ _ _)
theorem cut_sm (v : Vc) : Sm (cut v) := by unfold Sm cut; rw [lst_some, List.length_take]; omega
theorem cutV_len (l : Option (List Vc)) : (lst (cutV l)).length ≤ 7 := by unfold cutV; rw [lst_oL, List.length_map, List.length_take]; omega
theorem cutV_sm (l : Option (List Vc)) : ∀ v ∈ lst (cutV l), Sm v := by
 intro v hv
 unfold cutV at hv
 rw [lst_oL] at hv
 obtain ⟨x, -, rfl⟩ := List.mem_map.1 hv
 exact cut_sm x
theorem f18 (c : Option (List Vc)) (v : Vc) (m : Int) (hl : (lst c).length ≤ 7) (hv : ∀ v ∈ lst c, Sm v) (hv' : Sm v) (fs : Bool) (σ : Sto) (n lk : Nat) :
 ∃ L, L = (if nrE c v m = 0 then near v (lst c) m else []) ∧ callE T fs 18 [slV 1 vecV c, slV 1 i32V v, .int .i64 m] σ n lk = some (.tup [iVal n L, .int .i64 (nrE c v m)], iSto σ n L, iN n L) := by
 refine ⟨_, rfl, ?_⟩
 have r := r18 c v m hl hv hv'
 have e : [slV 1 vecV c, slV 1 i32V v, .int .i64 m].mapM (frz σ 12) = some [slV 1 vecV c, slV 1 i32V v, .int .i64 m] := by
  simp only [List.mapM_cons, List.mapM_nil, frz_slV, frz_int]; rfl
 rw [callE_flat (by decide) e r (flat_tup2 (flat_ownI _) rfl), thaw_tup, thawL_cons, thaw_ownI]
 rfl
end Go.Q.SY
end

section
/- The law of the nearest centroids. -/
namespace Go.Q.SY
open Go.Q Go.Sort
theorem nr0 {c : Option (List Vc)} {v : Vc} {m : Int} (h : nrE c v m = 0) : 1 ≤ m ∧ okV v = true ∧ cents c = true ∧ dm c = (lst v).length ∧ lst c ≠ [] := by
 unfold nrE at h
 by_cases ha : askE m = 0
 ·rw [if_neg (by omega)] at h
  have hm : 1 ≤ m := by unfold askE at ha; split at ha; cases ha; omega
  cases ho : okV v
  ·rw [ho] at h; cases h
  ·rw [ho, if_pos rfl] at h
   unfold cnE at h
   by_cases ht : trE c = 0
   ·rw [if_neg (by omega)] at h
    have hne : lst c ≠ [] := by intro h; unfold trE at ht; rw [if_pos h] at ht; cases ht
    have hc : cents c = true := by
     unfold trE at ht; rw [if_neg hne] at ht
     cases h : cents c
     ·rw [h] at ht; cases ht
     ·rfl
    by_cases hd : dm c = (lst v).length
    ·exact ⟨hm, rfl, hc, hd, hne⟩
    ·rw [if_neg hd] at h; cases h
   ·rw [if_pos ht] at h; exact absurd h ht
 ·rw [if_pos ha] at h; exact absurd h ha
theorem cents_mem {c : Option (List Vc)} (hc : cents c = true) : ∀ x ∈ lst c, okV x = true ∧ (lst x).length = dm c := by
 unfold cents at hc
 simp only [Bool.and_eq_true, decide_eq_true_eq] at hc
 intro v hv
 have := List.all_eq_true.1 hc.2 v hv
 simpa [okC] using this
theorem cents_len {c : Option (List Vc)} (hc : cents c = true) : (lst c).length ≤ 6 := by
 unfold cents at hc; simp only [Bool.and_eq_true, decide_eq_true_eq] at hc; exact hc.1
theorem nr_two {c : Option (List Vc)} {v : Vc} (hc : cents c = true) (ho : okV v = true) (hd : dm c = (lst v).length) : ∀ x ∈ lst c, Two x v :=
 fun x hx => ⟨(cents_mem hc x hx).1, ho, by rw [(cents_mem hc x hx).2, hd]⟩
end Go.Q.SY
end

section
/- Rows; whether they may be; queries. -/
namespace Go.Q.SY
open Go.Q Go.Sort
def qE (v : Option (List Int)) (k : Int) : Int := if k < 1 then 2 else if 16 < k then 2 else if okV v then 0 else 150
theorem r35 (v : Option (List Int)) (k : Int) (hv : (lst v).length < 9223372036854775808) : res T 35 [.agg [slV 1 i32V v, .int .i64 k]] = some (.int .i64 (qE v k)) := by
 refine run_res (run_pure (fn := g35) rfl rfl (by decide) ?_)
 simp only [g35, b35, zO, zN, zM, zL, zG, zP, zQ, zI, zA, zT, zF, zB, zC, zD, zE, zH, zJ, zK]
 have f := f46 v hv
 by_cases h1 : k < 1
 ·simp +contextual -implicitDefEqProofs (maxSteps := 2000000) only [↓wP, wS, seval, h1, qE]
 ·by_cases h2 : 16 < k
  ·simp +contextual -implicitDefEqProofs (maxSteps := 2000000) only [↓wP, wS, seval, h1, h2, qE]
  ·cases ho : okV v
   ·rw [ho] at f
    simp +contextual -implicitDefEqProofs (maxSteps := 2000000) only [↓wP, wS, seval, h1, h2, qE, f, ho]
   ·rw [ho] at f
    simp +contextual -implicitDefEqProofs (maxSteps := 2000000) only [↓wP, wS, seval, h1, h2, qE, f, ho]
def f35 (v : Option (List Int)) (k : Int) (hv : (lst v).length < 9223372036854775808) := callE_tr (by decide) (r35 v k hv) (by simp [Tr, Tr_slV]) rfl
structure Rw where
 id : Int
 v : Option (List Int)
def rwV (r : Rw) : V := .agg [.int .u64 r.id, slV 1 i32V r.v]
theorem rwV_eq (r : Rw) : rwV r = .agg [.int .u64 r.id, slV 1 i32V r.v] := rfl
theorem qE_ok {q : Option (List Int)} {k : Int} (h : qE q k = 0) : okV q = true ∧ 1 ≤ k ∧ k ≤ 16 := by
 unfold qE at h
 split at h
 ·cases h
 ·split at h
  ·cases h
  ·split at h
   ·rename_i h1 h2 h3; exact ⟨h3, by omega, by omega⟩
   ·cases h
theorem r40 (id : Int) (v : Option (List Int)) (hv : (lst v).length < 9223372036854775808) : res T 40 [.agg [.int .u64 id, slV 1 i32V v]] = some (.int .i64 (if okV v then 0 else 170)) := by
 refine run_res (run_pure (fn := g40) rfl rfl (by decide) ?_)
 simp only [g40, b40, zO, zN, zM, zL, zG, zP, zQ, zI, zA, zT, zF, zB, zC, zD, zE, zH, zJ, zK]
 have f := f46 v hv
 cases ho : okV v
 ·rw [ho] at f
  simp +contextual -implicitDefEqProofs (maxSteps := 2000000) only [↓wP, wS, seval, f, ho]
 ·rw [ho] at f
  simp +contextual -implicitDefEqProofs (maxSteps := 2000000) only [↓wP, wS, seval, f, ho]
def f40 (id : Int) (v : Option (List Int)) (hv : (lst v).length < 9223372036854775808) := callE_tr (by decide) (r40 id v hv) (by simp [Tr, Tr_slV]) rfl
theorem r39 (id : Int) (v : Option (List Int)) (hv : (lst v).length < 9223372036854775808) : res T 39 [.agg [.int .u64 id, slV 1 i32V v]] = some (.bool (!okV v)) := by
 refine run_res (run_pure (fn := g39) rfl rfl (by decide) ?_)
 simp only [g39, b39, zO, zN, zM, zL, zG, zP, zQ, zI, zA, zT, zF, zB, zC, zD, zE, zH, zJ, zK]
 have f := f40 id v hv
 cases ho : okV v
 ·rw [ho] at f
  simp +contextual -implicitDefEqProofs (maxSteps := 2000000) only [↓wP, wS, seval, f, ho]
 ·rw [ho] at f
  simp +contextual -implicitDefEqProofs (maxSteps := 2000000) only [↓wP, wS, seval, f, ho]
def f39 (id : Int) (v : Option (List Int)) (hv : (lst v).length < 9223372036854775808) := callE_tr (by decide) (r39 id v hv) (by simp [Tr, Tr_slV]) rfl
theorem r41 (id : Int) (v : Option (List Int)) (d : Int) : res T 41 [.agg [.int .u64 id, slV 1 i32V v], .box [.int .i64 d]] = some (.bool (((lst v).length : Int) != d)) := by
 refine run_res (run_pure (fn := g41) rfl rfl (by decide) ?_)
 simp only [g41, b41, zO, zN, zM, zL, zG, zP, zQ, zI, zA, zT, zF, zB, zC, zD, zE, zH, zJ, zK]
 simp +contextual -implicitDefEqProofs (maxSteps := 2000000) only [↓wP, wS, seval]
def f41 (id : Int) (v : Option (List Int)) (d : Int) := callE_tr (by decide) (r41 id v d) (by simp [Tr, Tr_slV]) rfl
def chkE (q : Vc) (k n : Int) : Int := if k < 1 then 2 else if 16 < k then 2 else if askE n ≠ 0 then askE n else if okV q then 0 else 150
theorem r12 (q : Vc) (k t m : Int) (hq : Sm q) : res T 12 [.agg [slV 1 i32V q, .int .i64 k, .int .u64 t, .int .i64 m]] = some (.int .i64 (chkE q k m)) := by
 refine run_res (run_pure (fn := g12) rfl rfl (by decide) ?_)
 simp only [g12, b12, zO, zN, zM, zL, zG, zP, zQ, zI, zA, zT, zF, zB, zC, zD, zE, zH, zJ, zK]
 have h1 := f35 q k hq
 have h2 := f34 m
 unfold chkE
 by_cases k1 : k < 1
 ·simp +contextual -implicitDefEqProofs (maxSteps := 2000000) only [↓wP, wS, seval, k1]
 ·by_cases k2 : 16 < k
  ·simp +contextual -implicitDefEqProofs (maxSteps := 2000000) only [↓wP, wS, seval, k1, k2]
  ·by_cases ha : askE m = 0
   ·have e : qE q k = if okV q then 0 else 150 := by unfold qE; rw [if_neg k1, if_neg k2]
    rw [e] at h1
    rw [ha] at h2
    rw [if_neg (show ¬ askE m ≠ 0 by omega)]
    simp +contextual -implicitDefEqProofs (maxSteps := 2000000) only [↓wP, wS, seval, k1, k2, h1, h2, ha]
   ·have hb : (askE m != 0) = true := by simpa using ha
    rw [if_pos ha]
    simp +contextual -implicitDefEqProofs (maxSteps := 2000000) only [↓wP, wS, seval, k1, k2, h2, ha, hb]
def f12 (q : Vc) (k t m : Int) (hq : Sm q) := callE_tr (by decide) (r12 q k t m hq) (by simp [Tr, Tr_slV]) rfl
end Go.Q.SY
end

section
/- The nearest vector. -/
namespace Go.Q.SY
open Go.Q Go.Sort
theorem f52g (v : Vc) (o : Option (List Vc)) (hne : lst o ≠ []) (fs : Bool) (σ : Sto) (n lk : Nat) : callE T fs 108 [slV 1 i32V v, .box [slV 1 vecV o]] σ n lk = some (.bool (((lst v).length : Int) != ((dm o : Nat) : Int)), σ, n) := by
 refine callE_tr (by decide) ?_ (by simp [Tr, Tr_slV]) rfl fs σ n lk
 refine run_res (run_pure (fn := g108) rfl rfl (by decide) ?_)
 simp only [g108, b108, zO, zN, zM, zL, zG, zP, zQ, zI, zA, zT, zF, zB, zC, zD, zE, zH, zJ, zK]
 obtain ⟨v0, h0, hd⟩ := dm_get hne
 rw [hd]
 simp +contextual -implicitDefEqProofs (maxSteps := 2000000) only [↓wP, wS, seval, h0, vecV_eq]
theorem r53h (c : Option (List Vc)) (hl : (lst c).length < 9223372036854775808) : res T 84 [slV 1 vecV c, .fn 108 [.box [slV 1 vecV c]]] = some (.bool ((lst c).any fun v => ((lst v).length : Int) != ((dm c : Nat) : Int))) := by
 refine run_res (run_pure (fn := g84) rfl rfl (by decide) ?_)
 simp only [g84, b84, zO, zN, zM, zL, zG, zP, zQ, zI, zA, zT, zF, zB, zC, zD, zE, zH, zJ, zK]
 have h := callE_tr (by decide) (r65g c 108 [.box [slV 1 vecV c]] (fun v => ((lst v).length : Int) != ((dm c : Nat) : Int)) hl (fun x hx fs σ n lk => f52g x c (fun h => by rw [h] at hx; simp at hx) fs σ n lk)) (by simp [Tr, Tr_slV]) rfl
 simp +contextual -implicitDefEqProofs (maxSteps := 2000000) only [↓wP, wS, seval, h, idxF_any]
def allE (o : Option (List Vc)) : Int := if (lst o).all okV then (if (lst o).any (fun v => ((lst v).length : Int) != ((dm o : Nat) : Int)) then 151 else 0) else 150
theorem r36g (c : Option (List Vc)) (hl : (lst c).length < 9223372036854775808) (hv : ∀ v ∈ lst c, Sm v) : res T 76 [slV 1 vecV c] = some (.int .i64 (allE c)) := by
 refine run_res (run_pure (fn := g76) rfl rfl (by decide) ?_)
 simp only [g76, b76, zO, zN, zM, zL, zG, zP, zQ, zI, zA, zT, zF, zB, zC, zD, zE, zH, zJ, zK]
 simp +contextual -implicitDefEqProofs (maxSteps := 2000000) only [↓wP, wS, seval]
 refine WC_for (lst c).length 0 (fun (j : Nat) env σ n => 1 ≤ n ∧ σ 0 = some (.row 1 [slV 1 vecV c]) ∧ env 1 = .ptr 0 1 0 0 ∧ env 7 = slV 1 vecV c ∧ (lst c).all okV = ((lst c).drop j).all okV) (by omega) (by decide) (by decide) (fun _ _ => rfl) (fun _ _ _ => rfl) ?_ ?_ _ _ _ rfl rfl ?_
 ·intro j env σ n hj g1 g2 ⟨g3, g4, g5, g6, g7⟩
  simp only [vl_tmp] at g2
  have hx : (lst c)[j]? = some (lst c)[j] := List.getElem?_eq_getElem hj
  have f := f46 (lst c)[j] (hv _ (List.getElem_mem hj))
  rw [List.drop_eq_getElem_cons hj, List.all_cons] at g7
  generalize (lst c)[j] = x at *
  cases ho : okV x
  ·rw [ho] at f
   rw [ho, Bool.false_and] at g7
   have e : allE c = 150 := by unfold allE; rw [g7]; rfl
   simp +contextual -implicitDefEqProofs (maxSteps := 2000000) only [↓wP, wS, seval, g1, g2, g3, g4, g5, g6, hx, vecV_eq, f, e]
  ·rw [ho] at f
   rw [ho, Bool.true_and] at g7
   simp +contextual -implicitDefEqProofs (maxSteps := 2000000) only [↓wP, wS, seval, g1, g2, g3, g4, g5, g6, hx, vecV_eq, f]
   exact g7
 ·intro env σ n ⟨g3, g4, g5, g6, g7⟩ g1 g2
  rw [List.drop_length, List.all_nil] at g7
  have hc : frz σ 12 (.fn 108 [.ptr 0 1 0 0]) = some (.fn 108 [.box [slV 1 vecV c]]) := by
   simp +contextual -implicitDefEqProofs (maxSteps := 2000000) only [↓wP, wS, seval, g4, frz_fn, frz_ptr, frz_slV, cl_slV]
  have e : [slV 1 vecV c, V.fn 108 [.ptr 0 1 0 0]].mapM (frz σ 12) = some [slV 1 vecV c, .fn 108 [.box [slV 1 vecV c]]] := by
   simp only [List.mapM_cons, List.mapM_nil, frz_slV, hc]; rfl
  have f84' := fun n lk => callE_flat (fs := true) (n := n) (lk := lk) (by decide) e (r53h c hl) rfl
  simp only [thaw] at f84'
  unfold allE
  rw [g7]
  cases ha : (lst c).any fun v => ((lst v).length : Int) != ((dm c : Nat) : Int) <;> rw [ha] at f84'
  all_goals simp +contextual -implicitDefEqProofs (maxSteps := 2000000) only [↓wP, wS, seval, g4, g5, f84']
 ·simp +contextual -implicitDefEqProofs (maxSteps := 2000000) only [↓wP, wS, seval]
def nb (v : Vc) (c : List Vc) (j : Nat) : Nat := (bst [] (dis v c) j).toNat
theorem nb_step (v : Vc) (c : List Vc) (j : Nat) : nb v c (j + 1) = if ahead ⟨j, dis v c j⟩ ⟨nb v c j, dis v c (nb v c j)⟩ then j else nb v c j := by
 unfold nb
 rw [show bst [] (dis v c) (j + 1) = if (j : Int) ∈ ([] : List Int) then bst [] (dis v c) j else if 0 ≤ bst [] (dis v c) j ∧ dis v c (bst [] (dis v c) j).toNat ≤ dis v c j then bst [] (dis v c) j else j from rfl, if_neg (by simp)]
 rcases bst_spec [] (dis v c) j with ⟨h1, h2⟩ | ⟨b, h1, h2, -, -⟩
 ·have : j = 0 := by
   rcases Nat.eq_zero_or_pos j with h | h
   ·exact h
   ·have := h2 0 h; simp at this
  subst this
  rw [h1, if_neg (by omega)]
  show (0 : Int).toNat = _
  rw [show ((-1 : Int).toNat) = 0 by rfl]
  split <;> rfl
 ·rw [h1]
  unfold ahead
  simp only [Int.toNat_natCast]
  by_cases hd : dis v c b ≤ dis v c j
  ·rw [if_pos ⟨by omega, hd⟩, if_neg (by simp; omega)]; rfl
  ·rw [if_neg (by rintro ⟨-, h⟩; exact hd h), if_pos (by simp; omega)]; rfl
theorem nb_lt (v : Vc) (c : List Vc) (j : Nat) : nb v c j ≤ j := by
 unfold nb
 rcases bst_spec [] (dis v c) j with ⟨h1, h2⟩ | ⟨b, h1, h2, -, -⟩ <;> rw [h1] <;> simp <;> omega
theorem r43 (c : Option (List Vc)) (v : Vc) (hl : (lst c).length ≤ 7) (hne : lst c ≠ []) (h2' : ∀ x ∈ lst c, Two x v) (hv : ∀ x ∈ lst c, Sm x) (hv' : Sm v) :
 res T 43 [slV 1 vecV c, slV 1 i32V v] = some (.tup [.int .i64 (nb v (lst c) (lst c).length), .int .i64 0]) := by
 refine run_res (run_pure (fn := g43) rfl rfl (by decide) ?_)
 simp only [g43, b43, zO, zN, zM, zL, zG, zP, zQ, zI, zA, zT, zF, zB, zC, zD, zE, zH, zJ, zK]
 have hp : 0 < (lst c).length := List.length_pos_iff.2 hne
 have z0 : (((lst c).length : Int) == 0) = false := by simp; exact hne
 obtain ⟨D, hD⟩ : ∃ D, D = dis v (lst c) := ⟨_, rfl⟩
 have hDx : ∀ i (h : i < (lst c).length), distI (lst c)[i] v = D i := fun i h => by rw [hD]; simp [dis, h]
 have x0 : (lst c)[0]? = some (lst c)[0] := List.getElem?_eq_getElem hp
 have d0 := f77 (lst c)[0] v (h2' _ (List.getElem_mem hp))
 rw [hDx 0 hp] at d0
 have ea : allE (some (v :: lst c)) = 0 := by
  have hok : okV v = true := (h2' _ (List.getElem_mem hp)).2
  have hd : dm (some (v :: lst c)) = (lst v).length := rfl
  unfold allE
  rw [if_pos, if_neg]
  ·rw [Bool.not_eq_true, List.any_eq_false]
   intro x hx
   rw [hd]
   rcases List.mem_cons.1 hx with rfl | hx
   ·simp
   ·have := (h2' x hx).3; simp; omega
  ·rw [List.all_eq_true]
   intro x hx
   rcases List.mem_cons.1 hx with rfl | hx
   ·exact hok
   ·exact (h2' x hx).1
 have r76 := r36g (some (v :: lst c)) (by rw [lst_some, List.length_cons]; omega) (fun x hx => by
  rcases List.mem_cons.1 hx with rfl | hx
  ·exact hv'
  ·exact hv x hx)
 rw [ea] at r76
 have hlm : ((lst c).map vecV).length = (lst c).length := List.length_map _
 have hL : (1 + (lst c).length) * 24 ≤ LIM := by unfold LIM; omega
 obtain ⟨σ1, hσ1⟩ : ∃ σ1, σ1 = upd (upd (upd Sto.empty 0 (some (Ob.row 1 [slV 1 i32V v]))) 0 none) 1 (some (Ob.row 1 (slV 1 i32V v :: (lst c).map vecV))) := ⟨_, rfl⟩
 have e : [V.ref 1 0 (1 + (lst c).length) 1].mapM (frz σ1 12) = some [slV 1 vecV (some (v :: lst c))] := by
  have hx : frz σ1 12 (.ref 1 0 (1 + (lst c).length) 1) = some (slV 1 vecV (some (v :: lst c))) := by
   have he : elems σ1 1 (.ref 1 0 (1 + (lst c).length) 1) = some ((v :: lst c).map vecV) := by
    rw [hσ1]
    simp [elems, upd]
    exact ⟨by omega, by rw [List.take_of_length_le (by rw [List.length_cons, List.length_map]; omega)]; rfl⟩
   show (elems _ _ _).bind _ = _
   rw [he, Option.bind_some, mapM_id (fun x hx => by
    obtain ⟨y, -, rfl⟩ := List.mem_map.1 hx
    exact elemM_tr (Tr_slV _ _ _ _))]
   rfl
  simp only [List.mapM_cons, List.mapM_nil, hx]; rfl
 have f76' := fun n lk => callE_flat (fs := true) (n := n) (lk := lk) (by decide) e r76 rfl
 simp only [thaw] at f76'
 simp +contextual -implicitDefEqProofs (maxSteps := 2000000) only [↓wP, wS, seval, z0, x0, vecV_eq, d0, true_or, hlm, hL, ← hσ1, f76']
 refine WC_for (lst c).length 0 (fun (j : Nat) env σ n => env 1 = slV 1 i32V v ∧ env 7 = .ptr 2 2 0 0 ∧ env 28 = slV 1 vecV c ∧ 3 ≤ n ∧ σ 2 = some (.row 2 [.agg [.int .u64 (nb v (lst c) j : Int), .int .u64 (D (nb v (lst c) j))]])) (by omega) (by decide) (by decide) (fun _ _ => rfl) (fun _ _ _ => rfl) ?_ ?_ _ _ _ rfl rfl ?_
 ·intro j env σ n hj h1 h2 ⟨g1, g2, g3, g4, g5⟩
  simp only [vl_tmp] at h2
  have hx : (lst c)[j]? = some (lst c)[j] := List.getElem?_eq_getElem hj
  have dj := f77 (lst c)[j] v (h2' _ (List.getElem_mem hj))
  rw [hDx j hj] at dj
  have hst := nb_step v (lst c) j
  rw [← hD] at hst
  generalize (lst c)[j] = x at *
  have wj : IntKind.u64.wrap ((j : Nat) : Int) = ((j : Nat) : Int) := by rw [wrap_u64] <;> omega
  have q2 : (2 = n) = False := by simp; omega
  have q3 : (n = 2) = False := by simp; omega
  obtain ⟨σ1, hσ1⟩ : ∃ σ1, σ1 = upd (upd σ n (some (.row 2 [.agg [.int .u64 0, .int .u64 0]]))) n (some (.row 2 [.agg [.int .u64 (j : Int), .int .u64 (D j)]])) := ⟨_, rfl⟩
  have s2 : σ1 2 = some (.row 2 [.agg [.int .u64 (nb v (lst c) j : Int), .int .u64 (D (nb v (lst c) j))]]) := by rw [hσ1]; simp [upd, q2, g5]
  have sn : σ1 n = some (.row 2 [.agg [.int .u64 (j : Int), .int .u64 (D j)]]) := by rw [hσ1]; simp [upd]
  by_cases ha : cmpH ⟨j, D j⟩ ⟨nb v (lst c) j, D (nb v (lst c) j)⟩ < 0
  ·have hah : ahead ⟨j, D j⟩ ⟨nb v (lst c) j, D (nb v (lst c) j)⟩ = true := by rw [← cmp_lt]; simpa using ha
   rw [if_pos hah] at hst
   simp +contextual -implicitDefEqProofs (maxSteps := 2000000) only [↓wP, wS, seval, h1, h2, g1, g2, g3, hx, vecV_eq, dj, wj, q2, q3, ← hσ1, s2, sn, f78, ha]
   exact ⟨by omega, by rw [hst]⟩
  ·have hah : ahead ⟨j, D j⟩ ⟨nb v (lst c) j, D (nb v (lst c) j)⟩ = false := by rw [← cmp_lt]; simpa using ha
   rw [if_neg (by rw [hah]; simp)] at hst
   simp +contextual -implicitDefEqProofs (maxSteps := 2000000) only [↓wP, wS, seval, h1, h2, g1, g2, g3, hx, vecV_eq, dj, wj, q2, q3, ← hσ1, s2, sn, f78, ha]
   exact ⟨by omega, by rw [hst]⟩
 ·intro env σ n ⟨g1, g2, g3, g4, g5⟩ h1 h2
  have wb : IntKind.i64.wrap ((nb v (lst c) (lst c).length : Nat) : Int) = ((nb v (lst c) (lst c).length : Nat) : Int) := by have := nb_lt v (lst c) (lst c).length; rw [wrap_i64] <;> omega
  simp +contextual -implicitDefEqProofs (maxSteps := 2000000) only [↓wP, wS, seval, g2, g5, wb]
 ·simp +contextual -implicitDefEqProofs (maxSteps := 2000000) only [↓wP, wS, seval]
  rfl
theorem f43 (c : Option (List Vc)) (v : Vc) (hl : (lst c).length ≤ 7) (hne : lst c ≠ []) (h2 : ∀ x ∈ lst c, Two x v) (hv : ∀ x ∈ lst c, Sm x) (hv' : Sm v) (fs : Bool) (σ : Sto) (n lk : Nat) :
 callE T fs 43 [slV 1 vecV c, slV 1 i32V v] σ n lk = some (.tup [.int .i64 (nb v (lst c) (lst c).length), .int .i64 0], σ, n) :=
 callE_tr (by decide) (r43 c v hl hne h2 hv hv') (by simp [Tr, Tr_slV]) rfl fs σ n lk
end Go.Q.SY
end

section
/- What is found among what is gone over. -/
namespace Go.Q.SY
open Go.Q Go.Sort
theorem hVal_frz {σ : Sto} {n : Nat} {l : List Hit} (h : l ≠ [] → σ n = some (.row 2 (hs l))) (k : Nat) : frz σ (k + 3) (hVal n l) = some (slV 2 hitV (optH l)) := by
 unfold hVal
 split
 ·rename_i e; subst e; rfl
 ·rename_i e
  have e1 : (rw' l.toArray).take l.length = hs l := by rw [rw_hs, hs_take, List.take_length]
  rw [frz_pre (d := l.toArray) (by simp) (by rw [rw_hs]; exact h e) k, e1]
  simp [optH, e, slV, hs]
def Iter (F : Nat) (caps : List V) (items : List Rw) (w : Nat) : Prop :=
 ∀ (J : List Rw → Sto → Nat → Prop) (D : Sto → Nat → Prop) (ok : Rw → Bool) (σ : Sto),
  (∀ pre σ n σ' n', J pre σ n → n ≤ n' → (∀ i, i < n → (i < 6 ∨ 6 + w ≤ i) → σ' i = σ i) → J pre σ' n') →
  (∀ σ n σ' n', D σ n → (∀ i, i < 6 → σ' i = σ i) → D σ' n') →
  (∀ pre x σ n, J pre σ n → 6 + w ≤ n → x ∈ items → pre.length < items.length → yieldW (run T) 5 [.int .u64 x.id, slV 1 i32V x.v] σ n 0 (fun y σ' n' => (∀ i, 6 ≤ i → i < 6 + w → σ' i = σ i) ∧ n ≤ n' ∧
   ((ok x = true ∧ y = .bool true ∧ J (pre ++ [x]) σ' n') ∨ (ok x = false ∧ y = .bool false ∧ D σ' n')))) →
  (∀ σ' n', 6 + w ≤ n' → (∀ i, i < 6 → σ' i = σ i) → J [] σ' n') →
  run T (.raw F (.yld 5 :: caps) σ 6 0) (memQ fun _ σ' n' => (items.all ok = true ∧ J items σ' n') ∨ (items.all ok = false ∧ D σ' n'))
def asg55 : AC := (.seq (.reg [⟨(some 9), none, .mov (.tmp 14)⟩]) (.reg [⟨(some 10), none, .mov (.tmp 15)⟩]))
def bd55 : AC := (.block 1 (.seq (.reg [⟨(some 17), none, .load false 1 (.tmp 5)⟩,
 ⟨(some 18), none, .mov (.tmp 9)⟩,
 ⟨(some 19), none, .mov (.tmp 10)⟩,
 ⟨(some 20), none, .callv (.tmp 17) [(.tmp 18), (.tmp 19)]⟩,
 ⟨(some 16), none, .mov (.tmp 20)⟩,
 ⟨(some 21), none, .ext (.tmp 16) 0⟩,
 ⟨(some 22), none, .ext (.tmp 16) 1⟩,
 ⟨(some 11), none, .alloc (.agg [(.int .u64 0), (.int .u64 0)])⟩,
 ⟨none, none, .store 2 (.tmp 11) (.tmp 21)⟩,
 ⟨(some 12), none, .mov (.tmp 22)⟩])
 (.seq (.seq (.reg [⟨(some 23), none, .mov (.tmp 12)⟩,
  ⟨(some 24), none, .bin .neq (.tmp 23) (.con (.int .i64 0))⟩])
 (.cond (.tmp 24)
  (.seq (.reg [⟨(some 25), none, .mov (.tmp 12)⟩,
   ⟨none, none, .store 1 (.tmp 6) (.con .nilS)⟩,
   ⟨none, none, .store 1 (.tmp 7) (.tmp 25)⟩])
  .ret)
  .skip))
 (.reg [⟨(some 26), none, .load false 1 (.tmp 8)⟩,
  ⟨(some 27), none, .load true 2 (.tmp 11)⟩,
  ⟨(some 28), none, .lit 2 [(.tmp 27)]⟩,
  ⟨(some 29), none, .append 2 16 (.tmp 26) (.tmp 28)⟩,
  ⟨none, none, .store 1 (.tmp 8) (.tmp 29)⟩]))))
theorem w_asg55 (env : Nat → V) (σ : Sto) (n lk : Nat) (Q : Ex → St → Prop) : WC T asg55 env σ n lk Q = WC T (.seq (.reg [⟨(some 9), none, .mov (.tmp 14)⟩]) (.reg [⟨(some 10), none, .mov (.tmp 15)⟩])) env σ n lk Q := rfl
theorem w_bd55 (env : Nat → V) (σ : Sto) (n lk : Nat) (Q : Ex → St → Prop) : WC T bd55 env σ n lk Q = WC T (.block 1 (.seq (.reg [⟨(some 17), none, .load false 1 (.tmp 5)⟩,
 ⟨(some 18), none, .mov (.tmp 9)⟩,
 ⟨(some 19), none, .mov (.tmp 10)⟩,
 ⟨(some 20), none, .callv (.tmp 17) [(.tmp 18), (.tmp 19)]⟩,
 ⟨(some 16), none, .mov (.tmp 20)⟩,
 ⟨(some 21), none, .ext (.tmp 16) 0⟩,
 ⟨(some 22), none, .ext (.tmp 16) 1⟩,
 ⟨(some 11), none, .alloc (.agg [(.int .u64 0), (.int .u64 0)])⟩,
 ⟨none, none, .store 2 (.tmp 11) (.tmp 21)⟩,
 ⟨(some 12), none, .mov (.tmp 22)⟩])
 (.seq (.seq (.reg [⟨(some 23), none, .mov (.tmp 12)⟩,
  ⟨(some 24), none, .bin .neq (.tmp 23) (.con (.int .i64 0))⟩])
 (.cond (.tmp 24)
  (.seq (.reg [⟨(some 25), none, .mov (.tmp 12)⟩,
   ⟨none, none, .store 1 (.tmp 6) (.con .nilS)⟩,
   ⟨none, none, .store 1 (.tmp 7) (.tmp 25)⟩])
  .ret)
  .skip))
 (.reg [⟨(some 26), none, .load false 1 (.tmp 8)⟩,
  ⟨(some 27), none, .load true 2 (.tmp 11)⟩,
  ⟨(some 28), none, .lit 2 [(.tmp 27)]⟩,
  ⟨(some 29), none, .append 2 16 (.tmp 26) (.tmp 28)⟩,
  ⟨none, none, .store 1 (.tmp 8) (.tmp 29)⟩])))) env σ n lk Q := rfl
def hitQ (q : Option (List Int)) (r : Rw) : Hit := ⟨r.id, distI q r.v⟩
structure Jq (q : Option (List Int)) (k : Int) (env : Nat → V) (w : Nat) (pre : List Rw) (σ : Sto) (n : Nat) : Prop where
 hn : 6 + w ≤ n
 s0 : σ 0 = some (.row 2 [.agg [slV 1 i32V q, .int .i64 k]])
 s1 : σ 1 = some (.row 1 [.bnd 60 [.agg [slV 1 i32V q, .int .i64 k]]])
 s2 : σ 2 = some (.row 1 [.nilS])
 s3 : σ 3 = some (.row 1 [.int .i64 0])
 s5 : σ 5 = some (.loop env [14, 15] asg55 bd55 .ready none)
 s4 : ∃ v, σ 4 = some (.row 1 [v]) ∧ Pl σ (6 + w) n 2 v (oH (pre.map (hitQ q)))
structure Dq (env : Nat → V) (σ : Sto) (n : Nat) : Prop where
 s2 : σ 2 = some (.row 1 [.nilS])
 s3 : σ 3 = some (.row 1 [.int .i64 151])
 s5 : σ 5 = some (.loop env [14, 15] asg55 bd55 .done (some .ret))
theorem Jq.frame {q : Option (List Int)} {k : Int} {env : Nat → V} {w : Nat} {pre : List Rw} {σ σ' : Sto} {n n' : Nat} (h : Jq q k env w pre σ n) (hn : n ≤ n') (hs : ∀ i, i < n → (i < 6 ∨ 6 + w ≤ i) → σ' i = σ i) : Jq q k env w pre σ' n' := by
 obtain ⟨h1, h2, h3, h4, h5, h6, v, h7, h8⟩ := h
 exact ⟨by omega, by rw [hs 0 (by omega) (by omega), h2], by rw [hs 1 (by omega) (by omega), h3], by rw [hs 2 (by omega) (by omega), h4], by rw [hs 3 (by omega) (by omega), h5], by rw [hs 5 (by omega) (by omega), h6],
  v, by rw [hs 4 (by omega) (by omega), h7], h8.loc (fun i h1 h2 => hs i h2 (by omega)) hn⟩
theorem hy55 (q : Option (List Int)) (k : Int) (hq : okV q = true) (env : Nat → V) (w : Nat) (he5 : env 5 = .ptr 1 1 0 0) (he6 : env 6 = .ptr 2 1 0 0) (he7 : env 7 = .ptr 3 1 0 0) (he8 : env 8 = .ptr 4 1 0 0) (pre : List Rw) (x : Rw) (hx : okV x.v = true) (hpre : pre.length < 1000000)
 (σ : Sto) (n : Nat) (hJ : Jq q k env w pre σ n) (MP : V → Sto → Nat → Prop)
 (hT : decide ((lst q).length = (lst x.v).length) = true → ∀ σ' n', (∀ i, 6 ≤ i → i < 6 + w → σ' i = σ i) → n ≤ n' → Jq q k env w (pre ++ [x]) σ' n' → MP (.bool true) σ' n')
 (hF : decide ((lst q).length = (lst x.v).length) = false → ∀ σ' n', (∀ i, 6 ≤ i → i < 6 + w → σ' i = σ i) → n ≤ n' → Dq env σ' n' → MP (.bool false) σ' n') :
 yieldW (run T) 5 [.int .u64 x.id, slV 1 i32V x.v] σ n 0 MP := by
 obtain ⟨h1, h2, h3, h4, h5, h6, v, h7, h8⟩ := hJ
 refine yieldW_gs h6 rfl (Nat.zero_le _) ?_
 have f := f60 q x.v k x.id (by have := (okV_len hq).1; omega) (by have := (okV_len hx).1; omega)
 have q0 : (5 = n) = False := by simp; omega
 have q1 : (n = 5) = False := by simp; omega
 have p2 : (2 = n) = False := by simp; omega
 have p3 : (3 = n) = False := by simp; omega
 have p4 : (4 = n) = False := by simp; omega
 have p5 : (1 = n) = False := by simp; omega
 by_cases hl : (lst q).length = (lst x.v).length
 ·have hd : decide ((lst q).length = (lst x.v).length) = true := by simp [hl]
  have e1 : disE q x.v = 0 := by simp [disE, vAll, hq, hx, hl]
  have e2 : disV q x.v = distI q x.v := by unfold disE at e1; simp [disV, e1]
  rw [e1, e2] at f
  have hT := hT hd
  obtain ⟨σ1, hσ1⟩ : ∃ σ1, σ1 = upd (upd (upd σ 5 (some (.loop env [14, 15] asg55 bd55 .busy none))) n (some (.row 2 [.agg [.int .u64 0, .int .u64 0]]))) n (some (.row 2 [.agg [.int .u64 x.id, .int .u64 (distI q x.v)]])) := ⟨_, rfl⟩
  have so : ∀ i, i ≠ 5 → i < n → σ1 i = σ i := fun i g1 g2 => by
   have : i ≠ n := by omega
   rw [hσ1]; simp [upd, this, g1]
  have sn : σ1 n = some (.row 2 [.agg [.int .u64 x.id, .int .u64 (distI q x.v)]]) := by rw [hσ1]; simp [upd]
  have s5 : σ1 5 = some (.loop env [14, 15] asg55 bd55 .busy none) := by rw [hσ1]; simp [upd, q0]
  have s4 : σ1 4 = some (.row 1 [v]) := by rw [so 4 (by decide) (by omega), h7]
  have hc := h8.cells
  have ho := h8.one
  simp +contextual -implicitDefEqProofs (maxSteps := 2000000) only [↓wP, wS, seval, bind_cons, bind_nil, w_asg55, w_bd55, he5, he6, he7, he8, h3, h6, h7, f, q0, q1, p2, p3, p4, p5, ← hσ1, s4, sn, s5, hc]
  refine stepW_app1 (m := 6 + w) (n0 := n) (σ0 := σ) (o := oH (pre.map (hitQ q))) h8 (fun i g1 g2 => ?_) (by omega) (by omega) (Nat.zero_le _) ?_ (fun _ σ2 g1 g2 => ?_)
  ·have : i ≠ n + 1 := by omega
   simp [upd, this, so i (by omega) g2]
  ·rw [lst_oH, hs_len, List.length_map]; unfold LIM; omega
  ·rw [lst_oH, hs_len, List.length_map] at g1 ⊢
   have hv : ∀ i, i < 6 + w → ∀ off len s, v ≠ .ref i off len s := by
    intro i hi off len s e
    subst e
    cases ho' : oH (pre.map (hitQ q)) with
    | none => rw [ho'] at h8; simp only [Pl] at h8; cases h8
    | some xs => rw [ho'] at h8; obtain ⟨j, e, -, e2, -⟩ := h8; simp only [V.ref.injEq] at e; omega
   have t : ∀ i, i < n → (∀ off len s, v ≠ .ref i off len s) → σ2 i = σ1 i := fun i hi hne => by
    rw [g2 i (by omega) hne]
    have : i ≠ n + 1 := by omega
    simp [upd, this]
   have t4 := (t 4 (by omega) (hv 4 (by omega))).trans s4
   have t5 := (t 5 (by omega) (hv 5 (by omega))).trans s5
   have z4 : (4 = 5) = False := by simp
   have hsp : ∀ c, spliceC v 0 [c] = c := fun c => by
    cases ho' : oH (pre.map (hitQ q)) with
    | none => rw [ho'] at h8; simp only [Pl] at h8; subst h8; rfl
    | some xs => rw [ho'] at h8; obtain ⟨j, rfl, -⟩ := h8; rfl
   simp +contextual -implicitDefEqProofs (maxSteps := 2000000) only [↓wP, wS, seval, he8, t4, t5, hsp]
   have tt : ∀ i, i < 6 + w → i ≠ 5 → σ2 i = σ i := fun i hi h5 => (t i (by omega) (hv i hi)).trans (so i h5 (by omega))
   have eo : oH ((pre ++ [x]).map (hitQ q)) = some (hs (pre.map (hitQ q)) ++ [.agg [.int .u64 x.id, .int .u64 (distI q x.v)]]) := by
    simp [oH, hs, hitV, hitQ]
   refine .inl (hT _ _ (fun i a1 a2 => ?_) (by omega) ⟨by omega, ?_, ?_, ?_, ?_, ?_, .ref (n + 2) 0 (pre.length + 1) 2, ?_, ?_⟩)
   ·have b1 : i ≠ 4 := by omega
    have b2 : i ≠ 5 := by omega
    simp [upd, b1, b2, tt i a2 b2]
   ·simp [upd, tt 0 (by omega) (by decide), h2]
   ·simp [upd, tt 1 (by omega) (by decide), h3]
   ·simp [upd, tt 2 (by omega) (by decide), h4]
   ·simp [upd, tt 3 (by omega) (by decide), h5]
   ·simp [upd]
   ·simp [upd]
   ·rw [eo]
    exact g1.loc (fun i a1 a2 => by
     have b1 : i ≠ 4 := by omega
     have b2 : i ≠ 5 := by omega
     simp [upd, b1, b2]) (Nat.le_refl _)
 ·have hd : decide ((lst q).length = (lst x.v).length) = false := by simp [hl]
  have e1 : disE q x.v = 151 := by simp [disE, vAll, hq, hx, hl]
  have e2 : disV q x.v = 0 := by unfold disE at e1; simp [disV, e1]
  rw [e1, e2] at f
  have hF := hF hd
  simp +contextual -implicitDefEqProofs (maxSteps := 2000000) only [↓wP, wS, seval, bind_cons, bind_nil, w_asg55, w_bd55, he5, he6, he7, he8, h3, h4, h5, h6, h7, f, q0, q1, p2, p3, p4, p5]
  refine .inr (hF _ _ (fun i a1 a2 => ?_) (by omega) ⟨?_, ?_, ?_⟩)
  ·have b1 : i ≠ 5 := by omega
   have b2 : i ≠ 3 := by omega
   have b3 : i ≠ 2 := by omega
   have b4 : i ≠ n := by omega
   simp [upd, b1, b2, b3, b4]
  ·simp [upd]
  ·simp [upd]
  ·simp [upd]
def sameD (q : Option (List Int)) (x : Rw) : Bool := decide ((lst q).length = (lst x.v).length)
def itL (q : Option (List Int)) (k : Nat) (l : List Rw) : List Hit := if l.all (sameD q) then fst' k (l.map (hitQ q)) else []
def itE (q : Option (List Int)) (l : List Rw) : Int := if l.all (sameD q) then 0 else 151
theorem hVal_giv' {σ : Sto} {n : Nat} {l : List Hit} (h : l ≠ [] → σ n = some (.row 2 (hs l))) : giv σ 11 (hVal n l) = some (ownH l) ∧ (gids σ 11 (hVal n l)).Nodup := by
 unfold hVal
 by_cases h0 : l = []
 ·rw [if_pos h0, h0]; exact ⟨rfl, by simp [gids]⟩
 ·have hat := h h0
  rw [if_neg h0, ownH_eq h0]
  have hg : ∀ x ∈ hs l, elemM (giv σ 10) x = some x := by
   intro x hx
   obtain ⟨y, -, rfl⟩ := List.mem_map.1 hx
   rfl
  have hg' : ∀ x ∈ hs l, ∀ c ∈ x.cells, gids σ 10 c = [] := by
   intro x hx c hc
   obtain ⟨y, -, rfl⟩ := List.mem_map.1 hx
   simp only [hitV, V.cells, List.mem_cons, List.not_mem_nil, or_false] at hc
   rcases hc with rfl | rfl <;> rfl
  constructor
  ·simp only [giv, hat, hs_len, and_self, if_true]
   rw [mapM_id hg]; rfl
  ·simp only [gids, hat]
   rw [List.flatMap_eq_nil_iff.2 fun x hx => List.flatMap_eq_nil_iff.2 fun c hc => hg' x hx c hc]
   simp
theorem r55 (q : Option (List Int)) (k : Nat) (F : Nat) (caps : List V) (items : List Rw) (w : Nat) (hq : okV q = true) (hk1 : 1 ≤ k) (hk2 : k ≤ 16) (hit : ∀ x ∈ items, okV x.v = true) (hlen : items.length ≤ 2000) (hI : Iter F caps items w) :
 res T 55 [.agg [slV 1 i32V q, .int .i64 (k : Int)], .fn F caps, .bnd 60 [.agg [slV 1 i32V q, .int .i64 (k : Int)]]] = some (.tup [ownH (itL q k items), .int .i64 (itE q items)]) := by
 refine run_res (run_own (fn := g55) rfl rfl (by decide) ?_)
 simp only [g55, b55, zO, zN, zM, zL, zG, zP, zQ, zI, zA, zT, zF, zB, zC, zD, zE, zH, zJ, zK]
 simp +contextual -implicitDefEqProofs (maxSteps := 2000000) only [↓wP, wS, seval]
 generalize hE : pt (pt (pt (pt (pt (pt (envOf [V.agg [slV 1 i32V q, V.int IntKind.i64 (k : Int)], V.fn F caps, V.bnd 60 [V.agg [slV 1 i32V q, V.int IntKind.i64 (k : Int)]]]) 3 (V.ptr 0 2 0 0)) 5 (V.ptr 1 1 0 0)) 6 (V.ptr 2 1 0 0)) 7 (V.ptr 3 1 0 0)) 8 (V.ptr 4 1 0 0)) 13 (V.fn F caps) = env
 have e3 : env 3 = .ptr 0 2 0 0 := by rw [← hE]; rfl
 have e5 : env 5 = .ptr 1 1 0 0 := by rw [← hE]; rfl
 have e6 : env 6 = .ptr 2 1 0 0 := by rw [← hE]; rfl
 have e7 : env 7 = .ptr 3 1 0 0 := by rw [← hE]; rfl
 have e8 : env 8 = .ptr 4 1 0 0 := by rw [← hE]; rfl
 have e13 : env 13 = V.fn F caps := by rw [← hE]; rfl
 clear hE
 refine WC_rangeF (f := F) (caps := caps) e13 (Nat.zero_le _) ?_
 refine run_mono _ _ _ (fun o ho => ?_) (hI (fun pre σ n => Jq q (k : Int) env w pre σ n) (Dq env) (sameD q) _ ?_ ?_ ?_ ?_)
 ·cases o <;> try exact ho.elim
  rename_i v σ' n'
  rcases ho with ⟨hB, hJ⟩ | ⟨hB, hD⟩
  ·obtain ⟨h1, h2, h3, h4, h5, h6, v, h7, h8⟩ := hJ
   refine ⟨_, _, _, _, _, _, h6, by decide, ?_⟩
   have hL : itL q k items = fst' k (items.map (hitQ q)) := by unfold itL; rw [hB]; rfl
   have hE : itE q items = 0 := by unfold itE; rw [hB]; rfl
   rw [hL, hE]
   have hf : Hf (upd σ' 5 none) v (items.map (hitQ q)) := ⟨_, lst_optH _, by
    refine plHf (m := 6 + w) (n := n') (h8.loc (fun i a1 a2 => ?_) (Nat.le_refl _))
    have : i ≠ 5 := by omega
    simp [upd, this]⟩
   have mE : merE (k : Int) (items.map (hitQ q)) = 0 := by
    unfold merE; rw [if_neg (by omega), if_neg (by rw [List.length_map]; omega)]
   have mV : merV (k : Int) (items.map (hitQ q)) = fst' k (items.map (hitQ q)) := by unfold merV; rw [if_pos mE]; rfl
   have f := fun fs => f92 (k : Int) hf (by rw [List.length_map]; omega) fs n' 0
   rw [mE, mV] at f
   generalize fst' k (items.map (hitQ q)) = l at *
   have hcl : (hVal n' l).cells = [hVal n' l] := by unfold hVal; split <;> rfl
   have hon : (hVal n' l).one = true := by unfold hVal; split <;> rfl
   have hat : ∀ i, i < n' → hSto (upd σ' 5 none) n' l i = upd σ' 5 none i := fun i hi => hSto_at _ n' l hi
   have t2 : hSto (upd σ' 5 none) n' l 2 = some (.row 1 [.nilS]) := by rw [hat 2 (by omega)]; simp [upd, h4]
   have t3 : hSto (upd σ' 5 none) n' l 3 = some (.row 1 [.int .i64 0]) := by rw [hat 3 (by omega)]; simp [upd, h5]
   have tn : l ≠ [] → hSto (upd σ' 5 none) n' l n' = some (.row 2 (hs l)) := fun hne => by unfold hSto; rw [if_neg hne]; simp [upd]
   have z2 : (2 = n') = False := by simp; omega
   have z3 : (3 = n') = False := by simp; omega
   have hfz : ∀ (σ3 : Sto), (∀ i, i ≠ 2 → i ≠ 3 → σ3 i = hSto (upd σ' 5 none) n' l i) → giv σ3 11 (hVal n' l) = some (ownH l) ∧ (gids σ3 11 (hVal n' l)).Nodup := fun σ3 h9 => hVal_giv' (fun hne => by rw [h9 n' (by omega) (by omega)]; exact tn hne)
   have c4 : upd σ' 5 none 4 = some (.row 1 [v]) := by simp [upd, h7]
   have hc := h8.cells
   generalize hSto (upd σ' 5 none) n' l = σ2 at *
   generalize hVal n' l = hv at *
   generalize hN n' l = nn at *
   simp +contextual -implicitDefEqProofs (maxSteps := 2000000) only [↓wP, wS, seval, Option.getD_none, e3, e6, e7, e8, h2, h7, hc, f, hcl, hon, t2, t3, z2, z3]
   exact giv_tup2 (hfz _ (fun i a b => by simp [upd, a, b])) rfl rfl
  ·obtain ⟨h2, h3, h5⟩ := hD
   refine ⟨_, _, _, _, _, _, h5, by decide, ?_⟩
   have hL : itL q k items = [] := by unfold itL; rw [hB]; rfl
   have hE : itE q items = 151 := by unfold itE; rw [hB]; rfl
   rw [hL, hE]
   simp +contextual -implicitDefEqProofs (maxSteps := 2000000) only [↓wP, wS, seval, Option.getD_some, e6, e7, h2, h3]
   exact giv_tup2 (r := .nilS) ⟨rfl, by simp [gids]⟩ rfl rfl
 ·exact fun pre σ n σ' n' h h1 h2 => h.frame h1 h2
 ·exact fun σ n σ' n' h h2 => ⟨by rw [h2 2 (by decide), h.s2], by rw [h2 3 (by decide), h.s3], by rw [h2 5 (by decide), h.s5]⟩
 ·intro pre x σ n hJ hn hx hp
  exact hy55 q (k : Int) hq env w e5 e6 e7 e8 pre x (hit x hx) (by omega) σ n hJ _ (fun hd σ' n' a1 a2 a3 => ⟨a1, a2, .inl ⟨hd, rfl, a3⟩⟩) (fun hd σ' n' a1 a2 a3 => ⟨a1, a2, .inr ⟨hd, rfl, a3⟩⟩)
 ·intro σ' n' hn hs
  exact ⟨hn, by rw [hs 0 (by decide)]; simp [upd], by rw [hs 1 (by decide)]; simp [upd], by rw [hs 2 (by decide)]; simp [upd], by rw [hs 3 (by decide)]; simp [upd], by rw [hs 5 (by decide)]; rfl, .nilS, by rw [hs 4 (by decide)]; simp [upd], rfl⟩
end Go.Q.SY
end

section
/- Queries; rows. -/
namespace Go.Q.SY
open Go.Q
theorem mg1 (σ : Sto) (n : Nat) (o : Option Ob) : merge σ (upd σ n o) n = upd σ n o := by
 funext i
 have := big_le
 unfold merge upd
 by_cases h : i = n
 ·subst h; rw [if_pos ⟨Nat.le_refl _, by omega⟩]
 ·simp [h]
def sel (m0 m1 : Nat) (l : List Cel) : List Rw := (l.zipIdx.filter fun p => p.1.u && tb m0 m1 p.2).map fun p => ⟨p.1.id, p.1.v⟩
theorem sel_len (m0 m1 : Nat) (l : List Cel) : (sel m0 m1 l).length ≤ l.length := by
 unfold sel
 rw [List.length_map]
 exact Nat.le_trans (List.length_filter_le _ _) (by simp)
end Go.Q.SY
end

section
/- Cells, gone over. -/
namespace Go.Q.SY
open Go.Q Go.Sort
def selC (m0 m1 : Nat) (l : List Cel) : List Cel := (l.zipIdx.filter fun p => p.1.u && tb m0 m1 p.2).map (·.1)
def rowC (c : Cel) : Rw := ⟨c.id, c.v⟩
theorem sel_selC (m0 m1 : Nat) (l : List Cel) : sel m0 m1 l = (selC m0 m1 l).map rowC := by
 unfold sel selC rowC
 rw [List.map_map]; rfl
theorem selC_snoc (m0 m1 : Nat) (l : List Cel) (c : Cel) : selC m0 m1 (l ++ [c]) = selC m0 m1 l ++ if (c.u && tb m0 m1 l.length) = true then [c] else [] := by
 unfold selC
 rw [List.zipIdx_append, List.filter_append, List.map_append]
 congr 1
 simp only [List.zipIdx_cons, List.zipIdx_nil, List.filter_cons, List.filter_nil, Nat.zero_add]
 split <;> rfl
theorem selC_pre (m0 m1 : Nat) (l : List Cel) (k : Nat) : ∃ r, selC m0 m1 l = selC m0 m1 (l.take k) ++ r := by
 refine ⟨(((l.drop k).zipIdx (l.take k).length).filter fun p => p.1.u && tb m0 m1 p.2).map (·.1), ?_⟩
 unfold selC
 conv => lhs; rw [← List.take_append_drop k l]
 rw [List.zipIdx_append, List.filter_append, List.map_append]
 simp
theorem raw93 (a : Option (List Cel)) (m0 m1 : Nat) (h0 : W64 m0) (h1 : W64 m1) (hl : (lst a).length ≤ 96) (l : Nat) (J' : List Cel → Sto → Nat → Prop) (D' : Sto → Nat → Prop) (ok : Cel → Bool)
 (hfr : ∀ pre σ n σ' n', J' pre σ n → n ≤ n' → (∀ i, i < n → σ' i = σ i) → J' pre σ' n')
 (hy : ∀ pre c σ n, J' pre σ n → c ∈ selC m0 m1 (lst a) → pre.length < (selC m0 m1 (lst a)).length → yieldW (run T) l [celV c] σ n 0 (fun y σ' n' => (ok c = true ∧ y = .bool true ∧ J' (pre ++ [c]) σ' n') ∨ (ok c = false ∧ y = .bool false ∧ D' σ' n')))
 (σ : Sto) (n : Nat) (hJ : J' [] σ n) :
 run T (.raw 93 [.yld l, .box [slV 5 celV a], .box [.fn 58 [.box [.int .u64 (m0 : Int), .int .u64 (m1 : Int)]]]] σ n 0) (memQ fun _ σ' n' => ((selC m0 m1 (lst a)).all ok = true ∧ J' (selC m0 m1 (lst a)) σ' n') ∨ ((selC m0 m1 (lst a)).all ok = false ∧ D' σ' n')) := by
 refine run_rawE (fn := g93) rfl rfl ?_
 simp only [g93, b93, zO, zN, zM, zL, zG, zP, zQ, zI, zA, zT, zF, zB, zC, zD, zE, zH, zJ, zK]
 obtain ⟨MP, hMP⟩ : ∃ MP : Sto → Nat → Prop, MP = fun σ' n' => ((selC m0 m1 (lst a)).all ok = true ∧ J' (selC m0 m1 (lst a)) σ' n') ∨ ((selC m0 m1 (lst a)).all ok = false ∧ D' σ' n') := ⟨_, rfl⟩
 simp only [← congrFun (congrFun hMP _) _]
 simp +contextual -implicitDefEqProofs (maxSteps := 2000000) only [↓wP, wS, seval]
 refine WC_for (lst a).length 0 (fun (j : Nat) env σ n => env 0 = .yld l ∧ env 2 = .box [.fn 58 [.box [.int .u64 (m0 : Int), .int .u64 (m1 : Int)]]] ∧ env 7 = slV 5 celV a ∧ (selC m0 m1 ((lst a).take j)).all ok = true ∧ J' (selC m0 m1 ((lst a).take j)) σ n) (by omega) (by decide) (by decide) (fun _ _ => rfl) (fun _ _ _ => rfl) ?_ ?_ _ _ _ rfl rfl ?_
 ·intro j env σ n hj g1 g2 ⟨g3, g4, g5, g6, g7⟩
  simp only [vl_tmp] at g2
  have hx : (lst a)[j]? = some (lst a)[j] := List.getElem?_eq_getElem hj
  have ht : selC m0 m1 ((lst a).take (j + 1)) = selC m0 m1 ((lst a).take j) ++ if ((lst a)[j].u && tb m0 m1 j) = true then [(lst a)[j]] else [] := by
   rw [← List.take_append_getElem hj, selC_snoc, List.length_take, Nat.min_eq_left (by omega)]
  obtain ⟨r, hr⟩ := selC_pre m0 m1 (lst a) (j + 1)
  generalize (lst a)[j] = c at *
  have f := f58 m0 m1 j h0 h1 (by omega)
  have hd : decide (j < 96) = true := by simp; omega
  rw [hd, Bool.true_and] at f
  have hJ1 := hfr _ _ _ (upd (upd σ n (some (.row 5 [.agg [.bool false, .int .u64 0, .int .u64 0, .int .u64 0, .nilS]]))) n (some (.row 5 [celV c]))) (n + 1) g7 (by omega) (fun i hi => by
   have : i ≠ n := by omega
   simp [upd, this])
  rw [celV_eq] at hJ1
  cases hu : c.u
  ·rw [hu] at hJ1
   simp only [hu, Bool.false_and, Bool.false_eq_true, if_false, List.append_nil] at ht
   rw [ht]
   simp +contextual -implicitDefEqProofs (maxSteps := 2000000) only [↓wP, wS, seval, g1, g2, g3, g4, g5, hx, celV_eq, hu]
   exact ⟨g6, hJ1⟩
  ·cases hb : tb m0 m1 j
   ·rw [hu] at hJ1
    simp only [hb, Bool.and_false, Bool.false_eq_true, if_false, List.append_nil] at ht
    rw [hb] at f
    rw [ht]
    simp +contextual -implicitDefEqProofs (maxSteps := 2000000) only [↓wP, wS, seval, g1, g2, g3, g4, g5, hx, celV_eq, hu, f]
    exact ⟨g6, hJ1⟩
   ·rw [hb] at f
    simp only [hu, hb, Bool.and_self, if_true] at ht
    have hm : c ∈ selC m0 m1 (lst a) := by rw [hr, ht]; simp
    have hln : (selC m0 m1 ((lst a).take j)).length < (selC m0 m1 (lst a)).length := by rw [hr, ht]; simp
    have hy1 := hy _ c _ _ hJ1 hm hln
    rw [celV_eq, hu] at hy1
    simp +contextual -implicitDefEqProofs (maxSteps := 2000000) only [↓wP, wS, seval, g1, g2, g3, g4, g5, hx, celV_eq, hu, f]
    refine stepW_yld (yieldW_mono (fun _ _ x => x) run_mono (fun y σ' n' a3 => ?_) hy1)
    rcases a3 with ⟨b1, rfl, b3⟩ | ⟨b1, rfl, b3⟩
    ·have hall : (selC m0 m1 ((lst a).take (j + 1))).all ok = true := by rw [ht, List.all_append, g6]; simp [b1]
     rw [← ht] at b3
     simp +contextual -implicitDefEqProofs (maxSteps := 2000000) only [↓wP, wS, seval, g1, g2, g3, g4, g5]
     exact ⟨hall, b3⟩
    ·have hall : (selC m0 m1 (lst a)).all ok = false := by
      rw [List.all_eq_false]
      exact ⟨c, hm, by simp [b1]⟩
     have hmp : MP σ' n' := by rw [hMP]; exact .inr ⟨hall, b3⟩
     simp +contextual -implicitDefEqProofs (maxSteps := 2000000) only [↓wP, wS, seval, g1, g2, g3, g4, g5]
     exact hmp
 ·intro env σ n ⟨g3, g4, g5, g6, g7⟩ g1 g2
  rw [List.take_length] at g6 g7
  have hmp : MP σ n := by rw [hMP]; exact .inl ⟨g6, g7⟩
  simp +contextual -implicitDefEqProofs (maxSteps := 2000000) only [↓wP, wS, seval]
  exact hmp
 ·simp +contextual -implicitDefEqProofs (maxSteps := 2000000) only [↓wP, wS, seval]
  exact ⟨by simp [selC], by simpa [selC] using hJ⟩
def asg56 : AC := (.reg [⟨(some 4), none, .alloc (.agg [(.bool false), (.int .u64 0), (.int .u64 0), (.int .u64 0), .nilS])⟩,
 ⟨none, none, .store 5 (.tmp 4) (.tmp 8)⟩])
def bd56 : AC := (.block 1 (.seq (.reg [⟨(some 9), none, .load false 1 (.tmp 3)⟩,
 ⟨(some 10), none, .faddr (.tmp 4) 1⟩,
 ⟨(some 11), none, .load false 1 (.tmp 10)⟩,
 ⟨(some 12), none, .faddr (.tmp 4) 2⟩,
 ⟨(some 13), none, .faddr (.tmp 12) 2⟩,
 ⟨(some 14), none, .load false 1 (.tmp 13)⟩,
 ⟨(some 15), none, .callv (.tmp 9) [(.tmp 11), (.tmp 14)]⟩,
 ⟨(some 16), none, .un .not (.tmp 15)⟩])
 (.cond (.tmp 16)
  .ret
  .skip)))
theorem w_asg56 (env : Nat → V) (σ : Sto) (n lk : Nat) (Q : Ex → St → Prop) : WC T asg56 env σ n lk Q = WC T (.reg [⟨(some 4), none, .alloc (.agg [(.bool false), (.int .u64 0), (.int .u64 0), (.int .u64 0), .nilS])⟩,
 ⟨none, none, .store 5 (.tmp 4) (.tmp 8)⟩]) env σ n lk Q := rfl
theorem w_bd56 (env : Nat → V) (σ : Sto) (n lk : Nat) (Q : Ex → St → Prop) : WC T bd56 env σ n lk Q = WC T (.block 1 (.seq (.reg [⟨(some 9), none, .load false 1 (.tmp 3)⟩,
 ⟨(some 10), none, .faddr (.tmp 4) 1⟩,
 ⟨(some 11), none, .load false 1 (.tmp 10)⟩,
 ⟨(some 12), none, .faddr (.tmp 4) 2⟩,
 ⟨(some 13), none, .faddr (.tmp 12) 2⟩,
 ⟨(some 14), none, .load false 1 (.tmp 13)⟩,
 ⟨(some 15), none, .callv (.tmp 9) [(.tmp 11), (.tmp 14)]⟩,
 ⟨(some 16), none, .un .not (.tmp 15)⟩])
 (.cond (.tmp 16)
  .ret
  .skip))) env σ n lk Q := rfl
theorem r57 (a : Option (List Cel)) (m0 m1 : Nat) : res T 57 [.agg [slV 5 celV a], .fn 58 [.box [.int .u64 (m0 : Int), .int .u64 (m1 : Int)]]] = some (.fn 93 [.box [slV 5 celV a], .box [.fn 58 [.box [.int .u64 (m0 : Int), .int .u64 (m1 : Int)]]]]) := by
 refine run_res (run_pure (fn := g57) rfl rfl (by decide) ?_)
 simp only [g57, b57, zO, zN, zM, zL, zG, zP, zQ, zI, zA, zT, zF, zB, zC, zD, zE, zH, zJ, zK]
 simp +contextual -implicitDefEqProofs (maxSteps := 2000000) only [↓wP, wS, seval]
def f57 (a : Option (List Cel)) (m0 m1 : Nat) := callE_tr (by decide) (r57 a m0 m1) (by simp [Tr, Tr_slV]) rfl
theorem cl_yld (l : Nat) : (V.yld l).cells = [.yld l] := rfl
theorem one_yld (l : Nat) : (V.yld l).one = true := rfl
theorem iter33 (a : Option (List Cel)) (m0 m1 : Nat) (h0 : W64 m0) (h1 : W64 m1) (hl : (lst a).length ≤ 96) : Iter 56 [.box [slV 5 celV a], .box [.int .u64 (m0 : Int), .int .u64 (m1 : Int)]] (sel m0 m1 (lst a)) 2 := by
 intro J D ok σ hfr hfD hy hJ0
 rw [sel_selC] at *
 refine run_rawE (fn := g56) rfl rfl ?_
 simp only [g56, b56, zO, zN, zM, zL, zG, zP, zQ, zI, zA, zT, zF, zB, zC, zD, zE, zH, zJ, zK]
 obtain ⟨MP, hMP⟩ : ∃ MP : Sto → Nat → Prop, MP = fun σ' n' => (((selC m0 m1 (lst a)).map rowC).all ok = true ∧ J ((selC m0 m1 (lst a)).map rowC) σ' n') ∨ (((selC m0 m1 (lst a)).map rowC).all ok = false ∧ D σ' n') := ⟨_, rfl⟩
 simp only [← congrFun (congrFun hMP _) _]
 have f := f57 a m0 m1
 simp +contextual -implicitDefEqProofs (maxSteps := 2000000) only [↓wP, wS, seval, cl_yld, one_yld, f]
 generalize hE : pt (pt (pt (pt (envOf [V.yld 5, V.box [slV 5 celV a], V.box [V.int IntKind.u64 (m0 : Int), V.int IntKind.u64 (m1 : Int)]]) 3 (V.ptr 6 1 0 0)) 5 (V.agg [slV 5 celV a])) 6 (V.fn 58 [V.box [V.int IntKind.u64 (m0 : Int), V.int IntKind.u64 (m1 : Int)]])) 7 (V.fn 93 [V.box [slV 5 celV a], V.box [V.fn 58 [V.box [V.int IntKind.u64 (m0 : Int), V.int IntKind.u64 (m1 : Int)]]]]) = env
 have e3 : env 3 = .ptr 6 1 0 0 := by rw [← hE]; rfl
 have e7 : env 7 = V.fn 93 [V.box [slV 5 celV a], V.box [V.fn 58 [V.box [V.int IntKind.u64 (m0 : Int), V.int IntKind.u64 (m1 : Int)]]]] := by rw [← hE]; rfl
 clear hE
 refine WC_rangeF (f := 93) (caps := [V.box [slV 5 celV a], V.box [V.fn 58 [V.box [V.int IntKind.u64 (m0 : Int), V.int IntKind.u64 (m1 : Int)]]]]) e7 (Nat.zero_le _) ?_
 refine run_mono _ _ _ (fun o ho => ?_) (raw93 a m0 m1 h0 h1 hl 7 (fun pre σ n => J (pre.map rowC) σ n ∧ 8 ≤ n ∧ σ 6 = some (.row 1 [.yld 5]) ∧ σ 7 = some (.loop env [8] asg56 bd56 .ready none))
  (fun σ n => D σ n ∧ σ 7 = some (.loop env [8] asg56 bd56 .done (some .ret))) (fun c => ok (rowC c)) ?_ ?_ _ _ ?_)
 ·cases o <;> try exact ho.elim
  rename_i v σ' n'
  rcases ho with ⟨hB, hJ, hn, h6, h7⟩ | ⟨hB, hD, h7⟩
  ·refine ⟨_, _, _, _, _, _, h7, by decide, ?_⟩
   have hmp : MP (upd σ' 7 none) n' := by
    rw [hMP]
    refine .inl ⟨by rw [List.all_map]; exact hB, hfr _ _ _ _ _ hJ (Nat.le_refl _) (fun i _ hi => ?_)⟩
    have : i ≠ 7 := by omega
    simp [upd, this]
   simp +contextual -implicitDefEqProofs (maxSteps := 2000000) only [↓wP, wS, seval, Option.getD_none]
   exact hmp
  ·refine ⟨_, _, _, _, _, _, h7, by decide, ?_⟩
   have hmp : MP (upd σ' 7 none) n' := by
    rw [hMP]
    refine .inr ⟨by rw [List.all_map]; exact hB, hfD _ _ _ _ hD (fun i hi => ?_)⟩
    have : i ≠ 7 := by omega
    simp [upd, this]
   simp +contextual -implicitDefEqProofs (maxSteps := 2000000) only [↓wP, wS, seval, Option.getD_some]
   exact hmp
 ·intro pre σ n σ' n' ⟨g1, g2, g3, g4⟩ hn hs
  exact ⟨hfr _ _ _ _ _ g1 hn (fun i hi _ => hs i hi), by omega, by rw [hs 6 (by omega), g3], by rw [hs 7 (by omega), g4]⟩
 ·intro pre c σ n ⟨g1, g2, g3, g4⟩ hc hp
  obtain ⟨YP, hYP⟩ : ∃ YP : V → Sto → Nat → Prop, YP = fun y σ' n' => (ok (rowC c) = true ∧ y = .bool true ∧ J ((pre ++ [c]).map rowC) σ' n' ∧ 8 ≤ n' ∧ σ' 6 = some (.row 1 [.yld 5]) ∧ σ' 7 = some (.loop env [8] asg56 bd56 .ready none)) ∨ (ok (rowC c) = false ∧ y = .bool false ∧ D σ' n' ∧ σ' 7 = some (.loop env [8] asg56 bd56 .done (some .ret))) := ⟨_, rfl⟩
  refine yieldW_mono (fun _ _ x => x) run_mono (fun y σ' n' (hh : YP y σ' n') => by rw [hYP] at hh; exact hh) ?_
  refine yieldW_gs g4 rfl (Nat.zero_le _) ?_
  have q7 : (7 = n) = False := by simp; omega
  have q6 : (6 = n) = False := by simp; omega
  have q8 : (n = 7) = False := by simp; omega
  obtain ⟨σ1, hσ1⟩ : ∃ σ1, σ1 = upd (upd (upd σ n (some (.row 5 [.agg [.bool false, .int .u64 0, .int .u64 0, .int .u64 0, .nilS]]))) n (some (.row 5 [celV c]))) 7 (some (.loop env [8] asg56 bd56 .busy none)) := ⟨_, rfl⟩
  have so : ∀ i, i ≠ 7 → i < n → σ1 i = σ i := fun i a1 a2 => by
   have : i ≠ n := by omega
   rw [hσ1]; simp [upd, this, a1]
  have sn : σ1 n = some (.row 5 [celV c]) := by rw [hσ1]; simp [upd, q8]
  have s6 : σ1 6 = some (.row 1 [.yld 5]) := by rw [so 6 (by decide) (by omega), g3]
  have s7 : σ1 7 = some (.loop env [8] asg56 bd56 .busy none) := by rw [hσ1]; simp [upd]
  have hJ1 := hfr _ _ _ σ1 (n + 1) g1 (by omega) (fun i hi h6 => so i (by omega) hi)
  have hy1 := hy _ (rowC c) σ1 (n + 1) hJ1 (by omega) (List.mem_map.2 ⟨c, hc, rfl⟩) (by rw [List.length_map, List.length_map]; exact hp)
  have hr1 : (rowC c).id = c.id := rfl
  have hr2 : (rowC c).v = c.v := rfl
  rw [hr1, hr2] at hy1
  rw [celV_eq] at sn hσ1
  simp +contextual -implicitDefEqProofs (maxSteps := 2000000) only [↓wP, wS, seval, cl_yld, bind_cons, bind_nil, w_asg56, w_bd56, e3, celV_eq, g4, q7, q6, q8, ← hσ1, s6, sn, s7]
  refine stepW_yld (yieldW_mono (fun _ _ x => x) run_mono (fun y σ' n' ⟨a1, a2, a3⟩ => ?_) hy1)
  have t6 := (a1 6 (by decide) (by decide)).trans s6
  have t7 := (a1 7 (by decide) (by decide)).trans s7
  rcases a3 with ⟨b1, rfl, b3⟩ | ⟨b1, rfl, b3⟩
  ·have hyp : YP (.bool true) (upd σ' 7 (some (.loop env [8] asg56 bd56 .ready none))) n' := by
    rw [hYP]
    refine .inl ⟨b1, rfl, ?_, by omega, by simp [upd, t6], by simp [upd]⟩
    rw [List.map_append]
    refine hfr _ _ _ _ _ b3 (Nat.le_refl _) (fun i _ hi => ?_)
    have : i ≠ 7 := by omega
    simp [upd, this]
   simp +contextual -implicitDefEqProofs (maxSteps := 2000000) only [↓wP, wS, seval, t7]
   exact .inl hyp
  ·have hyp : YP (.bool false) (upd σ' 7 (some (.loop env [8] asg56 bd56 .done (some .ret)))) n' := by
    rw [hYP]
    refine .inr ⟨b1, rfl, hfD _ _ _ _ b3 (fun i hi => ?_), by simp [upd]⟩
    have : i ≠ 7 := by omega
    simp [upd, this]
   simp +contextual -implicitDefEqProofs (maxSteps := 2000000) only [↓wP, wS, seval, t7]
   exact .inr hyp
 ·exact ⟨hJ0 _ 8 (by omega) (fun i hi => by
   have e1 : i ≠ 6 := by omega
   have e2 : i ≠ 7 := by omega
   simp [upd, e1, e2]), by omega, by simp [upd], by rfl⟩
end Go.Q.SY
end

section
/- Rows, gone over: what flat finds. -/
namespace Go.Q.SY
open Go.Q Go.Sort
theorem callE_sh {f : Nat} {args ts : List V} {r : V} {σ : Sto} (hm : T.mode f ≠ .raw) (hts : args.mapM (frz σ 12) = some ts) (hr : res T f ts = some r) (ht : ∀ σ n, thaw σ n r = (r, σ, n)) (n : Nat) :
 ∃ σ', callE T true f args σ n 0 = some (r, σ', n) := by
 rw [callE_eq hm, hts, callR_some, hr, retE_some]
 unfold backE
 split
 ·exact ⟨σ, by rw [ht]⟩
 ·refine ⟨dropL σ (args.flatMap (rch σ 12)), ?_⟩
  rw [if_pos (by simp), ht]
end Go.Q.SY
end

section
/- FlatScans. -/
namespace Go.Q.SY
open Go.Q Go.Sort
def scanE (a : Option (List Cel)) (m0 m1 : Nat) (q : Option (List Int)) (k : Int) : Int := if qE q k ≠ 0 then qE q k else if okA a = false then 190 else itE q (sel m0 m1 (lst a))
def scanL (a : Option (List Cel)) (m0 m1 : Nat) (q : Option (List Int)) (k : Int) : List Hit := if qE q k ≠ 0 then [] else if okA a = false then [] else itL q k.toNat (sel m0 m1 (lst a))
theorem sel_ok {a : Option (List Cel)} (m0 m1 : Nat) (h : okA a = true) : ∀ x ∈ sel m0 m1 (lst a), okV x.v = true := by
 intro x hx
 simp only [okA, Bool.and_eq_true] at h
 rw [sel_selC] at hx
 obtain ⟨c, hc, rfl⟩ := List.mem_map.1 hx
 unfold selC at hc
 obtain ⟨p, hp, rfl⟩ := List.mem_map.1 hc
 obtain ⟨hp1, hp2⟩ := List.mem_filter.1 hp
 have hm : p.1 ∈ lst a := by
  have := List.mem_zipIdx_iff_getElem?.1 hp1
  exact List.mem_of_getElem? this
 have hk := List.all_eq_true.1 h.2 _ hm
 simp only [Bool.and_eq_true] at hp2
 simp only [okCel, hp2.1, if_true, okVer, Bool.and_eq_true] at hk
 exact hk.2
theorem Nw_tup2 {k : Nat} {a b : V} (h : Nw k a = true) (h' : Nw k b = true) : Nw (k + 1) (.tup [a, b]) = true := by simp [Nw, h, h']
theorem r24 (a : Option (List Cel)) (m0 m1 : Nat) (q : Option (List Int)) (k : Int) (ha : SmA a) (h0 : W64 m0) (h1 : W64 m1) (hq : (lst q).length < 9223372036854775808) : res T 24 [.agg [slV 5 celV a], .agg [.int .u64 (m0 : Int), .int .u64 (m1 : Int)], .agg [slV 1 i32V q, .int .i64 k]] = some (.tup [slV 2 hitV (optH (scanL a m0 m1 q k)), .int .i64 (scanE a m0 m1 q k)]) := by
 refine run_res (run_pure (fn := g24) rfl rfl (by decide) ?_)
 simp only [g24, b24, zO, zN, zM, zL, zG, zP, zQ, zI, zA, zT, zF, zB, zC, zD, zE, zH, zJ, zK]
 have f1 := f35 q k hq
 have f2 := f21 a ha
 by_cases he : qE q k = 0
 ·obtain ⟨oq, hk1, hk2⟩ := qE_ok he
  rw [he] at f1
  cases hA : okA a
  ·have e0 : arE a = 190 := by simp [arE, hA]
   have e1 : scanE a m0 m1 q k = 190 := by simp [scanE, he, hA]
   have e2 : scanL a m0 m1 q k = [] := by simp [scanL, he, hA]
   rw [e0] at f2
   rw [e1, e2]
   simp +contextual -implicitDefEqProofs (maxSteps := 2000000) only [↓wP, wS, seval, f1, f2]
   rfl
  ·have e0 : arE a = 0 := by simp [arE, hA]
   have hl : (lst a).length = 96 := by simp only [okA, Bool.and_eq_true, decide_eq_true_eq] at hA; exact hA.1
   obtain ⟨kn, rfl⟩ : ∃ kn : Nat, k = (kn : Int) := ⟨k.toNat, by omega⟩
   have e1 : scanE a m0 m1 q (kn : Int) = itE q (sel m0 m1 (lst a)) := by simp [scanE, he, hA]
   have e2 : scanL a m0 m1 q (kn : Int) = itL q kn (sel m0 m1 (lst a)) := by simp [scanL, he, hA]
   rw [e0] at f2
   rw [e1, e2]
   have r := r55 q kn 56 _ (sel m0 m1 (lst a)) 2 oq (by omega) (by omega) (sel_ok m0 m1 hA) (by have := sel_len m0 m1 (lst a); omega) (iter33 a m0 m1 h0 h1 (by omega))
   obtain ⟨σ1, hσ1⟩ : ∃ σ1, σ1 = upd (upd (upd (upd (upd Sto.empty 0 (some (.row 1 [.agg [slV 5 celV a]]))) 1 (some (.row 2 [.agg [.int .u64 (m0 : Int), .int .u64 (m1 : Int)]]))) 2 (some (.row 2 [.agg [slV 1 i32V q, .int .i64 (kn : Int)]]))) 3 (some (.row 2 [.agg [.nilS, .int .i64 0]]))) 3 (some (.row 2 [.agg [slV 1 i32V q, .int .i64 (kn : Int)]])) := ⟨_, rfl⟩
   have s0 : σ1 0 = some (.row 1 [.agg [slV 5 celV a]]) := by rw [hσ1]; simp [upd]
   have s1 : σ1 1 = some (.row 2 [.agg [.int .u64 (m0 : Int), .int .u64 (m1 : Int)]]) := by rw [hσ1]; simp [upd]
   have s3 : σ1 3 = some (.row 2 [.agg [slV 1 i32V q, .int .i64 (kn : Int)]]) := by rw [hσ1]; simp [upd]
   have e : [V.agg [slV 1 i32V q, .int .i64 (kn : Int)], V.fn 56 [.ptr 0 1 0 0, .ptr 1 2 0 0], V.bnd 60 [.agg [slV 1 i32V q, .int .i64 (kn : Int)]]].mapM (frz σ1 12) =
    some [V.agg [slV 1 i32V q, .int .i64 (kn : Int)], V.fn 56 [.box [slV 5 celV a], .box [.int .u64 (m0 : Int), .int .u64 (m1 : Int)]], V.bnd 60 [.agg [slV 1 i32V q, .int .i64 (kn : Int)]]] := by
    have x1 : frz σ1 12 (.agg [slV 1 i32V q, .int .i64 (kn : Int)]) = some (.agg [slV 1 i32V q, .int .i64 (kn : Int)]) := (frz_tr σ1 12 _ (by simp [Tr, Tr_slV])).1
    have x2 : frz σ1 12 (.bnd 60 [.agg [slV 1 i32V q, .int .i64 (kn : Int)]]) = some (.bnd 60 [.agg [slV 1 i32V q, .int .i64 (kn : Int)]]) := (frz_tr σ1 12 _ (by simp [Tr, Tr_slV])).1
    have x3 : frz σ1 12 (.fn 56 [.ptr 0 1 0 0, .ptr 1 2 0 0]) = some (.fn 56 [.box [slV 5 celV a], .box [.int .u64 (m0 : Int), .int .u64 (m1 : Int)]]) := by
     simp only [frz, rowAt, s0, s1, List.mapM_cons, List.mapM_nil, if_true, List.getElem?_cons_zero, Option.bind_some, V.cells, List.drop_zero, frz_slV]
     rfl
    simp only [List.mapM_cons, List.mapM_nil, x1, x2, x3]
    rfl
   have f55 := callE_flat (by decide) e r (flat_tup2 (flat_ownH _) rfl) true 4 0
   rw [thaw_hTup] at f55
   simp +contextual -implicitDefEqProofs (maxSteps := 2000000) only [↓wP, wS, seval, f1, f2, ← hσ1, s3, f55]
   have hh : frz (hSto σ1 4 (itL q kn (sel m0 m1 (lst a)))) 11 (hVal 4 (itL q kn (sel m0 m1 (lst a)))) = some (slV 2 hitV (optH (itL q kn (sel m0 m1 (lst a))))) :=
    hVal_frz (fun hne => by unfold hSto; rw [if_neg hne]; simp [upd]) 8
   rw [hh]
   rfl
 ·have hd : (qE q k != 0) = true := by simpa using he
  have e1 : scanE a m0 m1 q k = qE q k := by simp [scanE, he]
  have e2 : scanL a m0 m1 q k = [] := by simp [scanL, he]
  rw [e1, e2]
  simp +contextual -implicitDefEqProofs (maxSteps := 2000000) only [↓wP, wS, seval, f1, hd]
  rfl
theorem f24 (a : Option (List Cel)) (m0 m1 : Nat) (q : Option (List Int)) (k : Int) (ha : SmA a) (h0 : W64 m0) (h1 : W64 m1) (hq : (lst q).length < 9223372036854775808) (fs : Bool) (σ : Sto) (n lk : Nat) :
 callE T fs 24 [.agg [slV 5 celV a], .agg [.int .u64 (m0 : Int), .int .u64 (m1 : Int)], .agg [slV 1 i32V q, .int .i64 k]] σ n lk = some (.tup [slV 2 hitV (optH (scanL a m0 m1 q k)), .int .i64 (scanE a m0 m1 q k)], σ, n) :=
 callE_tr (by decide) (r24 a m0 m1 q k ha h0 h1 hq) (by simp [Tr, Tr_slV]) (Nw_tup2 (Nw_slV 2 hitV _ 10) rfl) fs σ n lk
end Go.Q.SY
end

section
/- Rows and probes that can be gone through. -/
namespace Go.Q.SY
open Go.Q Go.Sort
theorem r8 (q : Vc) (k ts m : Int) (hq : Sm q) : res T 8 [.agg [slV 1 i32V q, .int .i64 k, .int .u64 ts, .int .i64 m]] = some (.agg [slV 1 i32V (cut q), .int .i64 k, .int .u64 ts, .int .i64 m]) := by
 refine run_res (run_pure (fn := g8) rfl rfl (by decide) ?_)
 simp only [g8, b8, zO, zN, zM, zL, zG, zP, zQ, zI, zA, zT, zF, zB, zC, zD, zE, zH, zJ, zK]
 have f := f19 q hq
 simp +contextual -implicitDefEqProofs (maxSteps := 2000000) only [↓wP, wS, seval, f]
def f8 (q : Vc) (k ts m : Int) (hq : Sm q) := callE_tr (by decide) (r8 q k ts m hq) (by simp [Tr, Tr_slV]) (by simp [Nw, Nw_slV])
end Go.Q.SY
end

section
/- What the document finds among rows. -/
namespace Go.Q.SY
open Go.Q Go.Sort
open Nat renaming reduceEqDiff → n1w, reduceAdd → n2w, reduceSub → n3w, reduceLeDiff → n4w, reduceLT → n5w, reduceMul → n6w
open Int renaming reduceBNe → i1w, reduceBEq → i2w, reduceLT → i3w, reduceLE → i4w, reduceGT → i5w
theorem r13 (q : Vc) (k t m : Int) (hq : Sm q) : res T 13 [.agg [slV 1 i32V q, .int .i64 k, .int .u64 t, .int .i64 m]] = some (.int .i64 (chkE q k m)) := by
 refine run_res (run_pure (fn := g13) rfl rfl (by decide) ?_)
 simp only [g13, b13, zO, zN, zM, zL, zG, zP, zQ, zI, zA, zT, zF, zB, zC, zD, zE, zH, zJ, zK]
 have h1 := f36 q hq
 unfold chkE askE
 by_cases k1 : k < 1
 ·simp +contextual -implicitDefEqProofs (maxSteps := 2000000) only [↓wP, wQ, wQ1, wQ2, wQ3, wR, boxE, partsOf, ↓reduceIte, n1w, n2w, n3w, n4w, n5w, n6w, reduceCtorEq, i1w, i2w, i3w, i4w, i5w, k1]
 ·by_cases k2 : 16 < k
  ·simp +contextual -implicitDefEqProofs (maxSteps := 2000000) only [↓wP, wQ, wQ1, wQ2, wQ3, wR, boxE, partsOf, ↓reduceIte, n1w, n2w, n3w, n4w, n5w, n6w, reduceCtorEq, i1w, i2w, i3w, i4w, i5w, k1, k2]
  ·by_cases k3 : m < 1
   ·simp +contextual -implicitDefEqProofs (maxSteps := 2000000) only [↓wP, wQ, wQ1, wQ2, wQ3, wR, boxE, partsOf, ↓reduceIte, n1w, n2w, n3w, n4w, n5w, n6w, reduceCtorEq, i1w, i2w, i3w, i4w, i5w, k1, k2, k3]
    rfl
   ·by_cases k4 : 1048576 < m
    ·simp +contextual -implicitDefEqProofs (maxSteps := 2000000) only [↓wP, wQ, wQ1, wQ2, wQ3, wR, boxE, partsOf, ↓reduceIte, n1w, n2w, n3w, n4w, n5w, n6w, reduceCtorEq, i1w, i2w, i3w, i4w, i5w, k1, k2, k3, k4]
     rfl
    ·cases ho : okV q
     ·rw [ho] at h1
      simp +contextual -implicitDefEqProofs (maxSteps := 2000000) only [↓wP, wQ, wQ1, wQ2, wQ3, wR, boxE, partsOf, ↓reduceIte, n1w, n2w, n3w, n4w, n5w, n6w, reduceCtorEq, i1w, i2w, i3w, i4w, i5w, k1, k2, k3, k4, h1]
      rfl
     ·rw [ho] at h1
      simp +contextual -implicitDefEqProofs (maxSteps := 2000000) only [↓wP, wQ, wQ1, wQ2, wQ3, wR, boxE, partsOf, ↓reduceIte, n1w, n2w, n3w, n4w, n5w, n6w, reduceCtorEq, i1w, i2w, i3w, i4w, i5w, k1, k2, k3, k4, h1]
      rfl
def f13 (q : Vc) (k t m : Int) (hq : Sm q) := callE_tr (by decide) (r13 q k t m hq) (by simp [Tr, Tr_slV]) rfl
def dimsB (q : Vc) (l : List Rw) : Bool := l.all fun r => decide ((lst r.v).length = (lst q).length)
theorem r33 (o : Option (List Rw)) (q : Vc) (k : Nat) (hl : (lst o).length ≤ 300) (hk : k < 1000) (hok : ∀ r ∈ lst o, (lst r.v).length = (lst q).length → Two r.v q) (hq : Sm q) : res T 33 [slV 2 rwV o, .agg [slV 1 i32V q, .int .i64 (k : Int)]] = some (.tup [slV 2 hitV (if dimsB q (lst o) = true then refF k ((lst o).map (hitQ q)) else none), .int .i64 (if dimsB q (lst o) = true then 0 else 151)]) := by
 refine run_res (run_pure (fn := g33) rfl rfl (by decide) ?_)
 simp only [g33, b33, zO, zN, zM, zL, zG, zP, zQ, zI, zA, zT, zF, zB, zC, zD, zE, zH, zJ, zK]
 simp +contextual -implicitDefEqProofs (maxSteps := 2000000) only [↓wP, wS, seval]
 refine WC_for (lst o).length 0 (fun (j : Nat) env σ n => env 3 = .ptr 0 2 0 0 ∧ env 9 = slV 2 rwV o ∧ 1 ≤ n ∧ σ 0 = some (.row 2 [.agg [slV 1 i32V q, .int .i64 (k : Int)]]) ∧ dimsB q ((lst o).take j) = true ∧ ∃ v, env 6 = v ∧ Pl σ 1 n 2 v (oH (((lst o).take j).map (hitQ q)))) (by omega) (by decide) (by decide) (fun _ _ => rfl) (fun _ _ _ => rfl) ?_ ?_ _ _ _ rfl rfl ?_
 ·intro j env σ n hj h1 h2 ⟨g1, g2, g3, g4, g0, v, g5, g6⟩
  simp only [vl_tmp] at h2
  have hx : (lst o)[j]? = some (lst o)[j] := List.getElem?_eq_getElem hj
  have ht : (lst o).take (j + 1) = (lst o).take j ++ [(lst o)[j]] := (List.take_append_getElem hj).symm
  have h2w' := hok _ (List.getElem_mem hj)
  have hbad : (lst (lst o)[j].v).length ≠ (lst q).length → dimsB q (lst o) = false := fun h => by
   cases hd : dimsB q (lst o)
   ·rfl
   ·exact absurd (of_decide_eq_true (List.all_eq_true.1 hd _ (List.getElem_mem hj))) h
  have g0' : (lst (lst o)[j].v).length = (lst q).length → dimsB q ((lst o).take (j + 1)) = true := fun h => by
   unfold dimsB at g0 ⊢
   rw [ht, List.all_append, g0]
   simp [h]
  generalize (lst o)[j] = x at *
  obtain ⟨σ1, hσ1⟩ : ∃ σ1, σ1 = upd (upd σ n (some (.row 2 [.agg [.int .u64 0, .nilS]]))) n (some (.row 2 [.agg [.int .u64 x.id, slV 1 i32V x.v]])) := ⟨_, rfl⟩
  have so : ∀ i, i < n → σ1 i = σ i := fun i hi => by rw [hσ1, upd_ne (by omega), upd_ne (by omega)]
  have sn : σ1 n = some (.row 2 [.agg [.int .u64 x.id, slV 1 i32V x.v]]) := by rw [hσ1, upd_self]
  have s0 : σ1 0 = some (.row 2 [.agg [slV 1 i32V q, .int .i64 (k : Int)]]) := by rw [so 0 (by omega)]; exact g4
  by_cases hde : (lst x.v).length = (lst q).length
  rotate_left
  ·have hd : (((lst x.v).length : Int) != ((lst q).length : Int)) = true := by simp; omega
   rw [hbad hde]
   have q0 : (0 = n) = False := by simp; omega
   simp +contextual -implicitDefEqProofs (maxSteps := 2000000) only [↓wP, wS, seval, h1, h2, g1, g2, g5, hx, rwV_eq, ← hσ1, sn, s0, hd, q0]
   rfl
  have h2w := h2w' hde
  have g0 := g0' hde
  have hd : (((lst x.v).length : Int) != ((lst q).length : Int)) = false := by simp [hde]
  have f := f67 x.v q h2w
  have hid : (⟨x.id, distI x.v q⟩ : Hit) = hitQ q x := by unfold hitQ; rw [distI_comm h2w.3]
  have hc := g6.cells
  have hsp := spl g6
  have hlen : (((lst o).take j).map (hitQ q)).length = j := by rw [List.length_map, List.length_take]; omega
  have y0 : ∀ hid, hide σ1 (n + 1) (n + 1) hid n = σ1 n := fun hid => hide_low _ _ _ _ (by omega) (Nat.le_refl _)
  have y1 : ∀ hid, hide σ1 (n + 1) (n + 1) hid 0 = σ1 0 := fun hid => hide_low _ _ _ _ (by omega) (Nat.le_refl _)
  have hB := big_le
  obtain ⟨m, hm, hmn⟩ : ∃ m, m = n + (1 + BIG) ∧ n + 2 ≤ m := ⟨_, rfl, by omega⟩
  have hmn2 : (n + 2 ≤ m) = True := by simp; exact hmn
  have ce : ∀ (x : V) (i : Nat), elemsO (upd σ1 i (some (Ob.row 2 [x])) i) 2 0 1 = some [x] := fun x i => by rw [upd_self]; rfl
  have q0 : (0 = n) = False := by simp; omega
  simp +contextual -implicitDefEqProofs (maxSteps := 2000000) only [↓wP, wS, seval, h1, h2, g1, g2, g5, hx, rwV_eq, ← hσ1, sn, s0, hd, f, y0, y1, mg1, Nat.mul_one, ce, ← hm, hmn2, q0]
  refine stepW_app1 (m := 1) (n0 := n) (σ0 := σ) g6 (fun i a1 a2 => ?_) (by omega) (by omega) (Nat.zero_le _) ?_ (fun _ σ2 a1 a2 => ?_)
  ·rw [upd_ne (by omega), so i a2]
  ·rw [lst_oH, hs_len, hlen]; unfold LIM; omega
  ·rw [lst_oH, hs_len, hlen] at a1 ⊢
   have hv0 : ∀ off len s, v ≠ .ref 0 off len s := by
    intro off len s e
    subst e
    cases ho' : oH (((lst o).take j).map (hitQ q)) with
    | none => rw [ho'] at g6; simp only [Pl] at g6; cases g6
    | some xs => rw [ho'] at g6; obtain ⟨i, e, -, e2, -⟩ := g6; simp only [V.ref.injEq] at e; omega
   have t0 : σ2 0 = some (.row 2 [.agg [slV 1 i32V q, .int .i64 (k : Int)]]) := by
    rw [a2 0 (by omega) hv0, upd_ne (by omega)]; exact s0
   simp +contextual -implicitDefEqProofs (maxSteps := 2000000) only [↓wP, wS, seval, h1, h2, g1, g2, hc, hsp]
   refine ⟨t0, g0, _, rfl, ?_⟩
   rw [ht, List.map_append, List.map_cons, List.map_nil, ← hid]
   have e2 : oH (((lst o).take j).map (hitQ q) ++ [⟨x.id, distI x.v q⟩]) = some (hs (((lst o).take j).map (hitQ q)) ++ [.agg [.int .u64 x.id, .int .u64 (distI x.v q)]]) := by
    simp [oH, hs, hitV]
   rw [e2]
   exact a1
 ·intro env σ n ⟨g1, g2, g3, g4, g0, v, g5, g6⟩ h1 h2
  rw [List.take_length] at g6 g0
  rw [g0]
  simp only [if_true]
  have hf := plHf g6
  have hll : ((lst o).map (hitQ q)).length ≤ 300 := by rw [List.length_map]; exact hl
  have r := r68 (optH ((lst o).map (hitQ q))) k (by rw [lst_optH]; omega) (by omega)
  rw [lst_optH] at r
  have e : [v, V.int .i64 (k : Int)].mapM (frz σ 12) = some [slV 2 hitV (optH ((lst o).map (hitQ q))), .int .i64 (k : Int)] := by simp only [List.mapM_cons, List.mapM_nil, hf]; rfl
  obtain ⟨σ', f68⟩ := callE_sh (by decide) e r (fun σ n => by rw [thaw_slV]) n
  simp +contextual -implicitDefEqProofs (maxSteps := 2000000) only [↓wP, wS, seval, g1, g4, g5, f68]
 ·simp +contextual -implicitDefEqProofs (maxSteps := 2000000) only [↓wP, wS, seval]
  simp [oH, Pl, dimsB]
end Go.Q.SY
end

section
/- The law's lists. -/
namespace Go.Q.SY
open Go.Q
theorem r7 (c : Option (List Vc)) (ms : Option (List (Nat × Nat))) (hl : (lst c).length < 4611686018427387904) (hv : ∀ v ∈ lst c, Sm v) (hml : (lst ms).length < 4611686018427387904) : res T 7 [.agg [slV 1 vecV c, slV 2 mV ms]] = some (.agg [slV 1 vecV (cutV c), slV 2 mV (some ((lst ms).take 7))]) := by
 refine run_res (run_pure (fn := g7) rfl rfl (by decide) ?_)
 simp only [g7, b7, zO, zN, zM, zL, zG, zP, zQ, zI, zA, zT, zF, zB, zC, zD, zE, zH, zJ, zK]
 have f := f15 c hl hv
 obtain ⟨σ1, hσ1⟩ : ∃ σ1, σ1 = upd (upd Sto.empty 0 (some (.row 2 [.agg [slV 1 vecV c, slV 2 mV ms]]))) 1 (some (.row 2 [.agg [.nilS, .nilS]])) := ⟨_, rfl⟩
 have s0 : σ1 0 = some (.row 2 [.agg [slV 1 vecV c, slV 2 mV ms]]) := by rw [hσ1]; simp [upd]
 have s1 : σ1 1 = some (.row 2 [.agg [.nilS, .nilS]]) := by rw [hσ1]; simp [upd]
 have hB := big_le
 have x0 : ∀ s lab, s 0 = σ1 0 → 2 ≤ lab → hide s 2 lab [0] 0 = σ1 0 := fun s lab h hl => by rw [hide_low _ _ _ _ (by omega) hl, h]
 have x1 : hide σ1 2 2 [0] 0 = σ1 0 := x0 σ1 2 rfl (by omega)
 have x2 : ∀ b : Sto, hide (merge σ1 b 2) 2 (2 + BIG * 1) [0] 0 = σ1 0 := fun b => x0 _ _ (merge_low _ _ _ (by omega)) (by omega)
 have x2' : ∀ b : Sto, hide (merge σ1 b 2) 2 2 [0] 0 = σ1 0 := fun b => x0 _ _ (merge_low _ _ _ (by omega)) (by omega)
 have x3 : (3 ≤ 2 + BIG) = True := by simp; omega
 have hle : (if (7 : Int) < ((lst ms).length : Int) then 7 else ((lst ms).length : Int)) = ((min (lst ms).length 7 : Nat) : Int) := by split <;> omega
 have hmn : min (lst ms).length 7 ≤ (lst ms).length := by omega
 obtain ⟨sD, hsD⟩ : ∃ sD, sD = sub ms 0 (min (lst ms).length 7) := ⟨_, rfl⟩
 have hlD : lst sD = (lst ms).take 7 := by rw [hsD, lst_sub, List.drop_zero, Nat.min_comm]; exact List.take_eq_take_min.symm
 have hll : (List.map mV (lst sD)).length * 16 ≤ LIM := by rw [List.length_map, hlD, List.length_take]; unfold LIM; omega
 have y1 : (1 = 2 + BIG * 1) = False := by simp; omega
 have y2 : (2 + BIG * 1 = 1) = False := by simp; omega
 have y3 : ∀ b : Sto, merge σ1 b 2 1 = σ1 1 := fun b => merge_low _ _ _ (by omega)
 have x4 : ∀ a b : Sto, merge a b 2 2 = b 2 := fun a b => merge_in a b _ (Nat.le_refl _) (by omega)
 simp +contextual -implicitDefEqProofs (maxSteps := 2000000) only [↓wP, wS, seval, f, ← hσ1, s0, s1, x1, x2, x2', x3, hle, hmn, ← hsD, x4, true_or, true_and, hll, y1, y2, y3]
 have hP : Pl (upd (upd (upd (merge σ1 (upd σ1 2 (some (.row 2 []))) 2) 2 none) (2 + BIG * 1) (some (.row 2 (List.map mV (lst sD))))) 1 (some (.row 2 [.agg [slV 1 vecV (cutV c), .ref (2 + BIG * 1) 0 (List.map mV (lst sD)).length 2]]))) 2 (3 + BIG * 1) 2
  (.ref (2 + BIG * 1) 0 (List.map mV (lst sD)).length 2) (some (List.map mV (lst sD))) :=
  ⟨2 + BIG * 1, rfl, by rw [upd_ne (by omega), upd_self], by omega, by omega⟩
 have hf := hP.frzk 10 (fun x hx => by obtain ⟨y, -, rfl⟩ := List.mem_map.1 hx; rfl) (fun x hx c hc => by
  obtain ⟨y, -, rfl⟩ := List.mem_map.1 hx
  simp only [mV, V.cells, List.mem_cons, List.not_mem_nil, or_false] at hc
  rcases hc with rfl | rfl <;> rfl)
 rw [hf, hlD]
 simp [slV]
def f7 (c : Option (List Vc)) (ms : Option (List (Nat × Nat))) (hl : (lst c).length < 4611686018427387904) (hv : ∀ v ∈ lst c, Sm v) (hml : (lst ms).length < 4611686018427387904) := callE_tr (by decide) (r7 c ms hl hv hml) (by simp [Tr, Tr_slV]) (by simp [Nw, Nw_slV])
end Go.Q.SY
end

section
/- What is read out of the store is read out with less depth, too, if it is not deep. -/
namespace Go.Q
def dp : Nat → V → Bool
 | k + 1, .sl _ ts => ts.all fun t => t.cells.all (dp k)
 | k + 1, .agg cs => cs.all (dp k)
 | _ + 1, .int _ _ => true
 | _ + 1, .bool _ => true
 | _ + 1, .str _ => true
 | _ + 1, .nilS => true
 | _, _ => false
theorem mapM_dn {f g : V → Option V} {p : V → Bool} (h : ∀ x t, f x = some t → p t = true → g x = some t) : ∀ (l m : List V), l.mapM f = some m → m.all p = true → l.mapM g = some m
 | [], m, e, _ => by simpa using e
 | x :: l, m, e, hp => by
   simp only [List.mapM_cons, Option.pure_def, Option.bind_eq_bind, Option.bind_eq_some_iff, Option.some.injEq] at e ⊢
   obtain ⟨t, ht, m', hm, rfl⟩ := e
   simp only [List.all_cons, Bool.and_eq_true] at hp
   exact ⟨t, h x t ht hp.1, m', mapM_dn h l m' hm hp.2, rfl⟩
theorem frz_agg' {σ : Sto} {k : Nat} {x : V} {ds : List V} (h : frz σ k x = some (.agg ds)) : ∃ cs, x = .agg cs := by
 cases k with
 | zero => cases x <;> simp [frz] at h
 | succ k =>
   cases x with
   | agg cs => exact ⟨cs, rfl⟩
   | _ => simp [frz, Option.bind_eq_some_iff] at h
theorem elemM_dn {σ : Sto} {k k' : Nat} (h : ∀ x t, frz σ k x = some t → dp k' t = true → frz σ k' x = some t) (x y : V) (e : elemM (frz σ k) x = some y) (hp : y.cells.all (dp k') = true) : elemM (frz σ k') x = some y := by
 unfold elemM at e ⊢
 split at e
 ·simp only [Option.map_eq_some_iff] at e ⊢
  obtain ⟨m, hm, rfl⟩ := e
  exact ⟨m, mapM_dn h _ _ hm hp, rfl⟩
 ·rename_i hx
  have hy : y.cells = [y] := by
   cases y with
   | agg ds => obtain ⟨cs, rfl⟩ := frz_agg' e; exact absurd rfl (hx _)
   | _ => rfl
  rw [hy] at hp
  exact h _ _ e (by simpa using hp)
theorem frz_dn {σ : Sto} : ∀ (k : Nat) (v t : V), frz σ (k + 1) v = some t → dp k t = true → frz σ k v = some t
 | 0, v, t, _, hp => by cases t <;> simp [dp] at hp
 | k + 1, v, t, h, hp => by
   have ih := frz_dn (σ := σ) k
   cases v with
   | ref id off len sz =>
     simp only [frz, Option.bind_eq_some_iff, Option.map_eq_some_iff] at h ⊢
     obtain ⟨xs, h1, ts, h2, rfl⟩ := h
     exact ⟨xs, h1, ts, mapM_dn (p := fun t => t.cells.all (dp k)) (elemM_dn ih) _ _ h2 (by simpa [dp] using hp), rfl⟩
   | agg cs =>
     simp only [frz, Option.map_eq_some_iff] at h ⊢
     obtain ⟨m, hm, rfl⟩ := h
     exact ⟨m, mapM_dn ih _ _ hm (by simpa [dp] using hp), rfl⟩
   | int | bool | str | nilS | sl => exact h
   | _ => (simp [frz, Option.bind_eq_some_iff] at h) <;> first | (subst h; simp [dp] at hp) | (obtain ⟨_, _, rfl⟩ := h; simp [dp] at hp) | (obtain ⟨_, _, _, _, rfl⟩ := h; simp [dp] at hp)
end Go.Q
end

section
/- The law's arena. -/
namespace Go.Q.SY
open Go.Q
def cutC (c : Cel) : Cel := ⟨c.u, c.id, c.b, c.e, oL ((lst c.v).take 5)⟩
def cutA (a : Option (List Cel)) : Option (List Cel) := oL (((lst a).take 97).map cutC)
theorem dp_i32 (k : Nat) (o : Option (List Int)) : dp (k + 2) (slV 1 i32V o) = true := by
 cases o with
 | none => rfl
 | some l =>
   simp only [slV, dp, List.all_eq_true, List.mem_map]
   rintro _ ⟨x, -, rfl⟩ c hc
   simp only [i32V, V.cells, List.mem_cons, List.not_mem_nil, or_false] at hc
   subst hc; rfl
theorem dp_cel (k : Nat) (o : Option (List Cel)) : dp (k + 3) (slV 5 celV o) = true := by
 cases o with
 | none => rfl
 | some l =>
   simp only [slV, dp, List.all_eq_true, List.mem_map]
   rintro _ ⟨x, -, rfl⟩ c hc
   simp only [celV_eq, V.cells, List.mem_cons, List.not_mem_nil, or_false] at hc
   rcases hc with rfl | rfl | rfl | rfl | rfl
   ·rfl
   ·rfl
   ·rfl
   ·rfl
   ·exact dp_i32 _ _
theorem fz_cel {σ : Sto} {i : Nat} (u : Bool) (a b c : Int) {l : List Int} (h : σ i = some (.row 1 (l.map i32V))) {S : Nat → Prop} (hS : S i) :
 FzL σ 11 [.agg [.bool u, .int .u64 a, .int .u64 b, .int .u64 c, .ref i 0 l.length 1]] [.agg [.bool u, .int .u64 a, .int .u64 b, .int .u64 c, slV 1 i32V (some l)]] S := by
 obtain ⟨h1, h2⟩ : Fz σ 11 (.ref i 0 l.length 1) (slV 1 i32V (some l)) S := by
  have := Fz.ref (k := 10) h hS (FzL.trees (fun x hx => by obtain ⟨y, -, rfl⟩ := List.mem_map.1 hx; rfl) (fun x hx c hc => by obtain ⟨y, -, rfl⟩ := List.mem_map.1 hx; simp only [i32V, V.cells, List.mem_cons, List.not_mem_nil, or_false] at hc; subst hc; rfl))
  rw [List.length_map] at this
  exact this
 refine ⟨?_, ?_⟩
 ·simp only [List.mapM_cons, List.mapM_nil, elemM, h1]
  rfl
 ·intro x hx c hc id hid
  rw [List.mem_singleton] at hx
  subst hx
  simp only [V.cells, List.mem_cons, List.not_mem_nil, or_false] at hc
  rcases hc with rfl | rfl | rfl | rfl | rfl
  ·simp [rch] at hid
  ·simp [rch] at hid
  ·simp [rch] at hid
  ·simp [rch] at hid
  ·exact h2 id hid
theorem r6 (a : Option (List Cel)) (hl : (lst a).length < 4611686018427387904) (hv : ∀ c ∈ lst a, Sm c.v) : res T 6 [.agg [slV 5 celV a]] = some (.agg [slV 5 celV (cutA a)]) := by
 refine run_res (run_pure (fn := g6) rfl rfl (by decide) ?_)
 simp only [g6, b6, zO, zN, zM, zL, zG, zP, zQ, zI, zA, zT, zF, zB, zC, zD, zE, zH, zJ, zK]
 simp +contextual -implicitDefEqProofs (maxSteps := 2000000) only [↓wP, wS, seval]
 refine WC_for (lst a).length 0 (fun (j : Nat) env σ n => env 7 = slV 5 celV a ∧ env 2 = .ptr 1 1 0 0 ∧ env 3 = .ptr 2 1 0 0 ∧ 3 ≤ n ∧ σ 1 = some (.row 1 [.agg [.nilS]]) ∧ ∃ v, σ 2 = some (.row 1 [.agg [v]]) ∧ Bls σ 5 v (oL ((((lst a).take (min j 97)).map cutC).map celV)) (fun i => 3 ≤ i ∧ i < n)) (by omega) (by decide) (by decide) (fun _ _ => rfl) (fun _ _ _ => rfl) ?_ ?_ _ _ _ rfl rfl ?_
 ·intro j env σ n hj h1 h2 ⟨h3, e2, e3, hn, h1s, v, h4, h5⟩
  simp only [vl_tmp] at h2
  have hx : (lst a)[j]? = some (lst a)[j] := List.getElem?_eq_getElem hj
  have ht : (lst a).take (j + 1) = (lst a).take j ++ [(lst a)[j]] := (List.take_append_getElem hj).symm
  have hs := hv _ (List.getElem_mem hj)
  generalize (lst a)[j] = x at *
  have hc := h5.cells
  have q2 : (2 = n) = False := by simp; omega
  have q1 : (1 = n) = False := by simp; omega
  have q3 : (n + 1 = n) = False := by simp
  have q4 : (2 = n + 1) = False := by simp; omega
  by_cases hj97 : j ≤ 96
  rotate_left
  ·have hd : decide ((j : Int) ≤ 96) = false := by simp; omega
   have hmn : min (j + 1) 97 = min j 97 := by omega
   simp +contextual -implicitDefEqProofs (maxSteps := 2000000) only [↓wP, wS, seval, h1, h2, h3, e2, e3, hx, celV_eq, hd, q2, h4]
   refine ⟨by omega, by rw [if_neg (by omega)]; exact h1s, v, rfl, ?_⟩
   rw [hmn]
   exact h5.loc (fun i hi => by rw [upd_ne (by omega), upd_ne (by omega)]) (fun i hi => ⟨hi.1, by omega⟩)
  have hd : decide ((j : Int) ≤ 96) = true := by simp; omega
  have hle : (if (5 : Int) < ((lst x.v).length : Int) then 5 else ((lst x.v).length : Int)) = ((min (lst x.v).length 5 : Nat) : Int) := by split <;> omega
  have hmn : min (lst x.v).length 5 ≤ (lst x.v).length := by omega
  obtain ⟨sD, hsD⟩ : ∃ sD, sD = sub x.v 0 (min (lst x.v).length 5) := ⟨_, rfl⟩
  have hlD : lst sD = (lst x.v).take 5 := by rw [hsD, lst_sub, List.drop_zero, Nat.min_comm]; exact List.take_eq_take_min.symm
  have hmj : min j 97 = j := by omega
  have hmj1 : min (j + 1) 97 = j + 1 := by omega
  rw [hmj] at h5
  obtain ⟨σ1, hσ1⟩ : ∃ σ1, σ1 = upd (upd σ n (some (.row 5 [.agg [.bool false, .int .u64 0, .int .u64 0, .int .u64 0, .nilS]]))) n (some (.row 5 [.agg [.bool x.u, .int .u64 x.id, .int .u64 x.b, .int .u64 x.e, slV 1 i32V x.v]])) := ⟨_, rfl⟩
  have so : ∀ i, i < n → σ1 i = σ i := fun i hi => by rw [hσ1, upd_ne (by omega), upd_ne (by omega)]
  have sn : σ1 n = some (.row 5 [.agg [.bool x.u, .int .u64 x.id, .int .u64 x.b, .int .u64 x.e, slV 1 i32V x.v]]) := by rw [hσ1, upd_self]
  have s2 : σ1 2 = some (.row 1 [.agg [v]]) := by rw [so 2 (by omega), h4]
  have hne : ∀ i, n ≤ i → ∀ off len s, v ≠ .ref i off len s := by
   intro i hi off len s e
   subst e
   have := Bls.ids h5 ⟨off, len, s, rfl⟩
   omega
  have h2e : ∀ off len s, v ≠ .ref 2 off len s := by
   intro off len s e
   subst e
   have := Bls.ids h5 ⟨off, len, s, rfl⟩
   omega
  have hcel : celV (cutC x) = .agg [.bool x.u, .int .u64 x.id, .int .u64 x.b, .int .u64 x.e, slV 1 i32V (oL ((lst x.v).take 5))] := rfl
  have hlim : ((((lst a).take j).map cutC).map celV).length + 1 ≤ 1000000 := by simp only [List.length_map, List.length_take]; omega
  by_cases hemp : lst sD = []
  ·have hem : (List.map i32V (lst sD)).isEmpty = true := by rw [hemp]; rfl
   have hcut : oL ((lst x.v).take 5) = none := by rw [← hlD, hemp]; rfl
   simp +contextual -implicitDefEqProofs (maxSteps := 2000000) only [↓wP, wS, seval, h1, h2, h3, e2, e3, hx, celV_eq, hd, q2, q3, q4, h4, hle, hmn, ← hsD, appendE_nil, hem, ← hσ1, sn, s2, so]
   generalize hσ2 : upd _ (n + 1) _ = σ2
   have so2 : ∀ i, i < n → σ2 i = σ i := fun i hi => by
    rw [← hσ2, upd_ne (by omega), upd_ne (by omega), so i hi]
   have h5' := h5.loc (S' := fun i => 3 ≤ i ∧ i < n) (fun i hi => so2 i hi.2) (fun i hi => hi)
   refine stepW_appS (us := [celV (cutC x)]) (S' := fun i => 3 ≤ i) h5' (fun i hi => by omega) (fun i hi => hi.1) (by omega) ?_ ?_ (fun v' σ' n' g1 g2 g3 g4 => ?_)
   ·rw [hcel, hcut]
    exact FzL.trees (fun x hx => by simp only [List.mem_singleton] at hx; subst hx; rfl) (fun x hx c hc => by simp only [List.mem_singleton] at hx; subst hx; simp only [V.cells, List.mem_cons, List.not_mem_nil, or_false] at hc; rcases hc with rfl | rfl | rfl | rfl | rfl <;> rfl)
   ·rw [lst_oL, List.length_singleton]; unfold LIM; omega
   ·have t1 := (g4 1 (by omega) (by intro off len s e; subst e; have := Bls.ids h5 ⟨off, len, s, rfl⟩; omega)).trans ((so2 1 (by omega)).trans h1s)
    have t2 := (g4 2 (by omega) h2e).trans ((so2 2 (by omega)).trans h4)
    simp +contextual -implicitDefEqProofs (maxSteps := 2000000) only [↓wP, wS, seval, h1, h2, h3, e2, e3, t2, g1.cells, g1.one]
    refine ⟨by omega, t1, _, rfl, ?_⟩
    rw [hmj1, ht, List.map_append, List.map_append, ← appO_oL]
    exact g1.loc (fun i hi => by rw [upd_ne (by omega)]) (fun i hi => ⟨hi.1, hi.2⟩)
  ·have hem : (List.map i32V (lst sD)).isEmpty = false := by cases h : lst sD with
    | nil => exact absurd h hemp
    | cons => rfl
   have hml : (List.map i32V (lst sD)).length * 4 ≤ LIM := by rw [List.length_map, hlD, List.length_take]; unfold LIM; omega
   simp +contextual -implicitDefEqProofs (maxSteps := 2000000) only [↓wP, wS, seval, h1, h2, h3, e2, e3, hx, celV_eq, hd, q2, q3, q4, h4, hle, hmn, ← hsD, appendE_nil, hem, hml, ← hσ1, sn, s2, so]
   generalize hσ2 : upd _ (n + 2) _ = σ2
   have so2 : ∀ i, i < n → σ2 i = σ i := fun i hi => by
    rw [← hσ2, upd_ne (by omega), upd_ne (by omega), upd_ne (by omega), so i hi]
   have h5' := h5.loc (S' := fun i => 3 ≤ i ∧ i < n) (fun i hi => so2 i hi.2) (fun i hi => hi)
   refine stepW_appS (us := [celV (cutC x)]) (S' := fun i => 3 ≤ i) h5' (fun i hi => by omega) (fun i hi => hi.1) (by omega) ?_ ?_ (fun v' σ' n' g1 g2 g3 g4 => ?_)
   ·have hcut : oL ((lst x.v).take 5) = some (lst sD) := by
     rw [← hlD]; cases h : lst sD with
     | nil => exact absurd h hemp
     | cons => rfl
    rw [hcel, hcut, List.length_map]
    exact fz_cel x.u x.id x.b x.e (by rw [← hσ2, upd_ne (by omega), upd_ne (by omega), upd_self]) ⟨by omega, by omega, hne _ (by omega)⟩
   ·rw [lst_oL, List.length_singleton]; unfold LIM; omega
   ·have t1 := (g4 1 (by omega) (by intro off len s e; subst e; have := Bls.ids h5 ⟨off, len, s, rfl⟩; omega)).trans ((so2 1 (by omega)).trans h1s)
    have t2 := (g4 2 (by omega) h2e).trans ((so2 2 (by omega)).trans h4)
    simp +contextual -implicitDefEqProofs (maxSteps := 2000000) only [↓wP, wS, seval, h1, h2, h3, e2, e3, t2, g1.cells, g1.one]
    refine ⟨by omega, t1, _, rfl, ?_⟩
    rw [hmj1, ht, List.map_append, List.map_append, ← appO_oL]
    exact g1.loc (fun i hi => by rw [upd_ne (by omega)]) (fun i hi => ⟨hi.1, hi.2⟩)
 ·intro env σ n ⟨h3, e2, e3, hn, h1s, v, h4, h5⟩ h1 h2
  have hmm : (lst a).take (min (lst a).length 97) = (lst a).take 97 := by rw [Nat.min_comm]; exact List.take_eq_take_min.symm
  rw [hmm] at h5
  have hf : ∀ o, frz (upd σ 1 o) 11 v = some (slV 5 celV (oL (((lst a).take 97).map cutC))) := fun o => by
   have h5' := h5.loc (σ' := upd σ 1 o) (S' := fun i => 3 ≤ i ∧ i < n) (fun i hi => by rw [upd_ne (by omega)]) (fun i hi => hi)
   rw [← slV_oL]
   exact frz_dn 11 _ _ h5'.frz (by rw [slV_oL]; exact dp_cel 8 _)
  simp +contextual -implicitDefEqProofs (maxSteps := 2000000) only [↓wP, wS, seval, e2, e3, h4, h1s, h5.cells, h5.one, hf]
  rfl
 ·simp +contextual -implicitDefEqProofs (maxSteps := 2000000) only [↓wP, wS, seval]
  simp [oL, Bls]
def f6 (a : Option (List Cel)) (hl : (lst a).length < 4611686018427387904) (hv : ∀ c ∈ lst a, Sm c.v) := callE_tr (by decide) (r6 a hl hv) (by simp [Tr, Tr_slV]) (by simp [Nw, Nw_slV])
end Go.Q.SY
end

section
/- What is found in an arena: the program. -/
namespace Go.Q.SY
open Go.Q Go.Sort
def ixN (q : Vc) (c : List Vc) (m : Int) : List Nat := (near q c m).map Int.toNat
theorem near_pos {q : Vc} {c : List Vc} {m : Int} : ∀ i ∈ near q c m, 0 ≤ i ∧ i < c.length := by
 intro i hi
 unfold near at hi
 obtain ⟨h, hh, rfl⟩ := List.mem_map.1 hi
 exact ct_id (List.mem_of_mem_take hh)
theorem ixN_iV (q : Vc) (c : List Vc) (m : Int) : (near q c m).map iV = (ixN q c m).map nV := by
 unfold ixN
 rw [List.map_map]
 refine List.map_congr_left fun i hi => ?_
 have := near_pos i hi
 simp only [iV, nV, Function.comp_apply]
 rw [Int.toNat_of_nonneg this.1]
theorem ixN_lt {q : Vc} {c : List Vc} {m : Int} : ∀ i ∈ ixN q c m, i < c.length := by
 intro i hi
 obtain ⟨x, hx, rfl⟩ := List.mem_map.1 hi
 have := near_pos x hx
 omega
theorem iVal_frz {σ : Sto} {n : Nat} {q : Vc} {c : List Vc} {m : Int} {k : Nat} (h : near q c m ≠ [] → σ n = some (.row 1 ((near q c m).map iV))) :
 frz σ (k + 2) (iVal n (near q c m)) = some (slV 1 nV (oL (ixN q c m))) := by
 rw [← slV_oL, ← ixN_iV]
 by_cases hL : near q c m = []
 ·unfold iVal
  rw [hL, if_pos rfl]
  rfl
 ·unfold iVal
  rw [if_neg hL]
  have := (Fz.ref (k := k + 1) (S := fun _ => True) (h hL) trivial (FzL.trees (fun x hx => by obtain ⟨y, -, rfl⟩ := List.mem_map.1 hx; rfl) (fun x hx c hc => by
   obtain ⟨y, -, rfl⟩ := List.mem_map.1 hx
   simp only [iV, V.cells, List.mem_cons, List.not_mem_nil, or_false] at hc
   subst hc; rfl))).1
  rw [List.length_map] at this
  rw [this]
  cases h : near q c m with
  | nil => exact absurd h hL
  | cons => simp [oL, slV]
theorem visM_wm (t : Int) (a : Option (List Cel)) : WM (visM t a) := by
 unfold visM
 split
 ·rename_i h
  have hl : (lst a).length = 96 := by simp only [okA, Bool.and_eq_true, decide_eq_true_eq] at h; exact h.1
  have := (mskL_ok t (lst a) 96 (by omega) (by omega)).1
  rw [← hl, List.take_length] at this
  exact ⟨this.lo, this.w⟩
 ·exact ⟨by unfold W64; omega, by unfold W64; omega⟩
def srE (a : Option (List Cel)) (c : Option (List Vc)) (ms : List (Nat × Nat)) (q : Vc) (k t m : Int) : Int :=
 if chkE q k m ≠ 0 then chkE q k m else if okLs c ms = false then 230 else if okA a = false then 190 else if nrE c q m ≠ 0 then nrE c q m
 else scanE a (scnM ms (ixN q (lst c) m) (visM t a)).1 (scnM ms (ixN q (lst c) m) (visM t a)).2 q k
def srL (a : Option (List Cel)) (c : Option (List Vc)) (ms : List (Nat × Nat)) (q : Vc) (k t m : Int) : List Hit :=
 if chkE q k m ≠ 0 then [] else if okLs c ms = false then [] else if okA a = false then [] else if nrE c q m ≠ 0 then []
 else scanL a (scnM ms (ixN q (lst c) m) (visM t a)).1 (scnM ms (ixN q (lst c) m) (visM t a)).2 q k
theorem r9 (a : Option (List Cel)) (c : Option (List Vc)) (ms : Option (List (Nat × Nat))) (q : Vc) (k t m : Int) (ha : SmA a) (hl : (lst c).length ≤ 7) (hv : ∀ v ∈ lst c, Sm v) (hml : (lst ms).length ≤ 7) (hm : ∀ m ∈ lst ms, WM m) (hq : Sm q) : res T 9 [.agg [slV 5 celV a], .agg [slV 1 vecV c, slV 2 mV ms], .agg [slV 1 i32V q, .int .i64 k, .int .u64 t, .int .i64 m]] = some (.tup [slV 2 hitV (optH (srL a c (lst ms) q k t m)), .int .i64 (srE a c (lst ms) q k t m)]) := by
 refine run_res (run_pure (fn := g9) rfl rfl (by decide) ?_)
 simp only [g9, b9, zO, zN, zM, zL, zG, zP, zQ, zI, zA, zT, zF, zB, zC, zD, zE, zH, zJ, zK]
 have f1 := f12 q k t m hq
 have f2 := f20 c ms (by omega) hv (by omega) hm
 have f3 := f21 a ha
 by_cases he : chkE q k m = 0
 rotate_left
 ·have hd : (chkE q k m != 0) = true := by simpa using he
  have e1 : srE a c (lst ms) q k t m = chkE q k m := by simp [srE, he]
  have e2 : srL a c (lst ms) q k t m = [] := by simp [srL, he]
  rw [e1, e2]
  simp +contextual -implicitDefEqProofs (maxSteps := 2000000) only [↓wP, wS, seval, f1, hd]
  rfl
 rw [he] at f1
 cases hO : okLs c (lst ms)
 ·have e1 : srE a c (lst ms) q k t m = 230 := by simp [srE, he, hO]
  have e2 : srL a c (lst ms) q k t m = [] := by simp [srL, he, hO]
  rw [e1, e2]
  rw [hO] at f2
  simp +contextual -implicitDefEqProofs (maxSteps := 2000000) only [↓wP, wS, seval, f1, f2]
  rfl
 rw [hO, if_pos rfl] at f2
 cases hA : okA a
 ·have e1 : srE a c (lst ms) q k t m = 190 := by simp [srE, he, hO, hA]
  have e2 : srL a c (lst ms) q k t m = [] := by simp [srL, he, hO, hA]
  have e0 : arE a = 190 := by simp [arE, hA]
  rw [e0] at f3
  rw [e1, e2]
  simp +contextual -implicitDefEqProofs (maxSteps := 2000000) only [↓wP, wS, seval, f1, f2, f3]
  rfl
 have e0 : arE a = 0 := by simp [arE, hA]
 rw [e0] at f3
 by_cases hn : nrE c q m = 0
 rotate_left
 ·have hd : (nrE c q m != 0) = true := by simpa using hn
  have e1 : srE a c (lst ms) q k t m = nrE c q m := by simp [srE, he, hO, hA, hn]
  have e2 : srL a c (lst ms) q k t m = [] := by simp [srL, he, hO, hA, hn]
  rw [e1, e2]
  have f4 : ∀ fs σ n lk, callE T fs 18 [slV 1 vecV c, slV 1 i32V q, .int .i64 m] σ n lk = some (.tup [.nilS, .int .i64 (nrE c q m)], σ, n) := fun fs σ n lk => by
   obtain ⟨L, hL, h⟩ := f18 c q m hl hv hq fs σ n lk
   rw [if_neg hn] at hL
   rw [h, hL]; rfl
  simp +contextual -implicitDefEqProofs (maxSteps := 2000000) only [↓wP, wS, seval, f1, f2, f3, f4, hd]
  rfl
 have e1 : srE a c (lst ms) q k t m = scanE a (scnM (lst ms) (ixN q (lst c) m) (visM t a)).1 (scnM (lst ms) (ixN q (lst c) m) (visM t a)).2 q k := by simp [srE, he, hO, hA, hn]
 have e2 : srL a c (lst ms) q k t m = scanL a (scnM (lst ms) (ixN q (lst c) m) (visM t a)).1 (scnM (lst ms) (ixN q (lst c) m) (visM t a)).2 q k := by simp [srL, he, hO, hA, hn]
 rw [e1, e2]
 obtain ⟨L, hL⟩ : ∃ L, L = near q (lst c) m := ⟨_, rfl⟩
 have f4 : ∀ fs σ n lk, callE T fs 18 [slV 1 vecV c, slV 1 i32V q, .int .i64 m] σ n lk = some (.tup [iVal n L, .int .i64 0], iSto σ n L, iN n L) := fun fs σ n lk => by
  obtain ⟨L', hL', h⟩ := f18 c q m hl hv hq fs σ n lk
  rw [if_pos hn] at hL'
  rw [h, hL', hL, hn]
 obtain ⟨σ1, hσ1⟩ : ∃ σ1, σ1 = upd (upd (upd Sto.empty 0 (some (.row 1 [.agg [slV 5 celV a]]))) 1 (some (.row 2 [.agg [slV 1 vecV c, slV 2 mV ms]]))) 2 (some (.row 4 [.agg [slV 1 i32V q, .int .i64 k, .int .u64 t, .int .i64 m]])) := ⟨_, rfl⟩
 have s0 : σ1 0 = some (.row 1 [.agg [slV 5 celV a]]) := by rw [hσ1]; simp [upd]
 have s1 : σ1 1 = some (.row 2 [.agg [slV 1 vecV c, slV 2 mV ms]]) := by rw [hσ1]; simp [upd]
 have s2 : σ1 2 = some (.row 4 [.agg [slV 1 i32V q, .int .i64 k, .int .u64 t, .int .i64 m]]) := by rw [hσ1]; simp [upd]
 obtain ⟨σ2, hσ2⟩ : ∃ σ2, σ2 = iSto σ1 3 L := ⟨_, rfl⟩
 obtain ⟨n2, hn2⟩ : ∃ n2, n2 = iN 3 L := ⟨_, rfl⟩
 have hn3 : 3 ≤ n2 := by rw [hn2]; unfold iN; split <;> omega
 have t0 : σ2 0 = some (.row 1 [.agg [slV 5 celV a]]) := by rw [hσ2]; unfold iSto; split <;> simp [upd, s0, s1, s2]
 have t1 : σ2 1 = some (.row 2 [.agg [slV 1 vecV c, slV 2 mV ms]]) := by rw [hσ2]; unfold iSto; split <;> simp [upd, s0, s1, s2]
 have t2 : σ2 2 = some (.row 4 [.agg [slV 1 i32V q, .int .i64 k, .int .u64 t, .int .i64 m]]) := by rw [hσ2]; unfold iSto; split <;> simp [upd, s0, s1, s2]
 have t3 : L ≠ [] → σ2 3 = some (.row 1 (L.map iV)) := fun h => by rw [hσ2]; unfold iSto; rw [if_neg h, upd_self]
 simp +contextual -implicitDefEqProofs (maxSteps := 2000000) only [↓wP, wS, seval, f1, f2, f3, ← hσ1, f4, ← hσ2, ← hn2, t0, t1, t2, s0, s1, s2]
 have hms : (lst ms).length = (lst c).length := by unfold okLs at hO; simp only [Bool.and_eq_true, decide_eq_true_eq] at hO; exact hO.2.1
 have hc6 : (lst c).length ≤ 6 := by unfold okLs at hO; simp only [Bool.and_eq_true] at hO; exact cents_len hO.1
 obtain ⟨ix, hix⟩ : ∃ ix, ix = ixN q (lst c) m := ⟨_, rfl⟩
 have hixl : ∀ i ∈ lst (oL ix), i < (lst ms).length := by rw [lst_oL, hix, hms]; exact ixN_lt
 have hm0 : 0 ≤ m := by have := (nr0 hn).1; omega
 have hixn : (lst (oL ix)).length ≤ 100 := by rw [lst_oL, hix]; unfold ixN; rw [List.length_map, near_len _ _ _ hm0]; omega
 have r22' := r22 c ms (oL ix) (by omega) hv (by omega) hm hO hixn hixl
 obtain ⟨M, hM⟩ : ∃ M, M = andM ((selM (lst ms) ix).foldl orMM (0, 0)) allM := ⟨_, rfl⟩
 have hMw : WM M := by
  rw [hM]
  exact WM_and (WM_foldo _ _ ⟨by unfold W64; omega, by unfold W64; omega⟩ (sel_wm hm ix))
 rw [lst_oL, ← hM] at r22'
 have e22 : [V.agg [slV 1 vecV c, slV 2 mV ms], iVal 3 L].mapM (frz σ2 12) = some [.agg [slV 1 vecV c, slV 2 mV ms], slV 1 nV (oL ix)] := by
  have x1 : frz σ2 12 (.agg [slV 1 vecV c, slV 2 mV ms]) = some (.agg [slV 1 vecV c, slV 2 mV ms]) := (frz_tr σ2 12 _ (by simp [Tr, Tr_slV])).1
  have x2 : frz σ2 12 (iVal 3 L) = some (slV 1 nV (oL ix)) := by rw [hL, hix]; exact iVal_frz (k := 10) (by rw [← hL]; exact t3)
  simp only [List.mapM_cons, List.mapM_nil, x1, x2]
  rfl
 have f22 := callE_flat (by decide) e22 r22' (by rfl) true n2 0
 have e22' : thaw σ2 n2 (.tup [mV M, .int .i64 0]) = (.tup [mV M, .int .i64 0], σ2, n2) := by rfl
 rw [e22', mV_eq] at f22
 have f23' := f23 a t ha
 obtain ⟨U, hU⟩ : ∃ U, U = visM t a := ⟨_, rfl⟩
 rw [← hU, e0] at f23'
 have hsc : scnM (lst ms) (ixN q (lst c) m) (visM t a) = andM (andM allM M) U := by rw [hM, hU, hix]; rfl
 rw [hsc]
 obtain ⟨σ3, hσ3⟩ : ∃ σ3, σ3 = upd (upd σ2 n2 (some (.row 2 [.agg [.int .u64 0, .int .u64 0]]))) n2 (some (.row 2 [.agg [.int .u64 (M.1 : Int), .int .u64 (M.2 : Int)]])) := ⟨_, rfl⟩
 obtain ⟨σ4, hσ4⟩ : ∃ σ4, σ4 = upd (upd σ3 (n2 + 1) (some (.row 2 [.agg [.int .u64 0, .int .u64 0]]))) (n2 + 1) (some (.row 2 [.agg [.int .u64 (U.1 : Int), .int .u64 (U.2 : Int)]])) := ⟨_, rfl⟩
 have so3 : ∀ i, i < n2 → σ3 i = σ2 i := fun i hi => by rw [hσ3, upd_ne (by omega), upd_ne (by omega)]
 have so4 : ∀ i, i < n2 → σ4 i = σ2 i := fun i hi => by rw [hσ4, upd_ne (by omega), upd_ne (by omega), so3 i hi]
 have v0 : σ3 0 = some (.row 1 [.agg [slV 5 celV a]]) := by rw [so3 0 (by omega), t0]
 have v2 : σ3 2 = some (.row 4 [.agg [slV 1 i32V q, .int .i64 k, .int .u64 t, .int .i64 m]]) := by rw [so3 2 (by omega), t2]
 have w0 : σ4 0 = some (.row 1 [.agg [slV 5 celV a]]) := by rw [so4 0 (by omega), t0]
 have w2 : σ4 2 = some (.row 4 [.agg [slV 1 i32V q, .int .i64 k, .int .u64 t, .int .i64 m]]) := by rw [so4 2 (by omega), t2]
 have wM : σ4 n2 = some (.row 2 [.agg [.int .u64 (M.1 : Int), .int .u64 (M.2 : Int)]]) := by rw [hσ4, upd_ne (by omega), upd_ne (by omega), hσ3, upd_self]
 have wU : σ4 (n2 + 1) = some (.row 2 [.agg [.int .u64 (U.1 : Int), .int .u64 (U.2 : Int)]]) := by rw [hσ4, upd_self]
 have z0 : ((0 : Int) != 0) = false := rfl
 have hUw : WM U := by rw [hU]; exact visM_wm t a
 have hm25 : T.mode 25 ≠ .raw := by decide
 have r25' : res T 25 [.sl 2 [.agg [.int .u64 (M.1 : Int), .int .u64 (M.2 : Int)], .agg [.int .u64 (U.1 : Int), .int .u64 (U.2 : Int)]]] = some (.agg [.int .u64 ((andM (andM allM M) U).1 : Int), .int .u64 ((andM (andM allM M) U).2 : Int)]) :=
  r25 (some [M, U]) (by simp [lst]) (fun x hx => by
   simp only [lst_some, List.mem_cons, List.not_mem_nil, or_false] at hx
   rcases hx with rfl | rfl
   ·exact hMw
   ·exact hUw)
 have hRw : WM (andM (andM allM M) U) := WM_and (WM_and WM_all)
 have f24' := f24 a (andM (andM allM M) U).1 (andM (andM allM M) U).2 q k ha hRw.1 hRw.2 hq
 generalize andM (andM allM M) U = R at *
 have hB := big_le
 have x0 : hide σ4 (n2 + 2) (n2 + 2) [0] 0 = σ4 0 := hide_low σ4 (n2 + 2) (n2 + 2) _ (by omega) (Nat.le_refl _)
 have x1 : (n2 + 3 ≤ n2 + 2 + BIG) = True := by simp; omega
 have x1' : (n2 + 3 ≤ n2 + (2 + BIG)) = True := by simp; omega
 have bf : ∀ (D : List Nat) (s : Sto) (k lk : Nat), backE false D (.agg [.int .u64 (R.1 : Int), .int .u64 (R.2 : Int)]) s k lk = some (.agg [.int .u64 (R.1 : Int), .int .u64 (R.2 : Int)], s, k) := fun D s k lk => by
  rw [backE_flat rfl]; rfl
 have x5 : ∀ a b : Sto, merge a b (n2 + 2) (n2 + 2) = b (n2 + 2) := fun a b => merge_in a b _ (Nat.le_refl _) (by omega)
 have y1 : ∀ a b : Sto, merge a b (n2 + 2) 2 = a 2 := fun a b => merge_low a b _ (by omega)
 have y2 : ∀ s : Sto, s 2 = σ4 2 → hide s (n2 + 2) (n2 + (2 + BIG * 1)) [0] 2 = σ4 2 := fun s h => by rw [hide_low _ _ _ _ (by omega) (by omega), h]
 simp +contextual -implicitDefEqProofs (maxSteps := 2000000) only [↓wP, wS, seval, f22, f23', ← hσ3, ← hσ4, v0, v2, w0, w2, wM, wU, z0, x0, x1, x1', bf, x5, y1, y2, callE_eq hm25, frz_rf, rch_rf, r25', f24']
end Go.Q.SY
end

section
/- What is found in an arena: the document. -/
namespace Go.Q.SY
open Go.Q Go.Sort
theorem chk0 {q : Vc} {k m : Int} (h : chkE q k m = 0) : qE q k = 0 ∧ okV q = true ∧ 1 ≤ k ∧ k ≤ 16 ∧ 1 ≤ m := by
 unfold chkE at h
 by_cases h1 : k < 1
 ·rw [if_pos h1] at h; cases h
 ·by_cases h2 : 16 < k
  ·rw [if_neg h1, if_pos h2] at h; cases h
  ·rw [if_neg h1, if_neg h2] at h
   by_cases h3 : askE m = 0
   ·rw [if_neg (by omega)] at h
    have hm : 1 ≤ m := by unfold askE at h3; split at h3; cases h3; omega
    cases ho : okV q
    ·rw [ho] at h; cases h
    ·refine ⟨?_, rfl, by omega, by omega, hm⟩
     unfold qE
     rw [if_neg h1, if_neg h2, ho]; rfl
   ·rw [if_pos h3] at h; exact absurd h h3
def rsel (ms : List (Nat × Nat)) (near : List Int) (t : Int) (l : List Cel) : List Rw := (l.zipIdx.filter fun p => p.1.u && (visB p.1.b p.1.e t && decide (whr ms p.2 ∈ near))).map fun p => ⟨p.1.id, p.1.v⟩
theorem rsel_snoc (ms : List (Nat × Nat)) (near : List Int) (t : Int) (l : List Cel) (c : Cel) : rsel ms near t (l ++ [c]) = rsel ms near t l ++ if (c.u && (visB c.b c.e t && decide (whr ms l.length ∈ near))) = true then [⟨c.id, c.v⟩] else [] := by
 unfold rsel
 rw [List.zipIdx_append, List.filter_append, List.map_append]
 congr 1
 simp only [List.zipIdx_cons, List.zipIdx_nil, List.filter_cons, List.filter_nil, Nat.zero_add]
 split <;> rfl
theorem rsel_len (ms : List (Nat × Nat)) (near : List Int) (t : Int) (l : List Cel) : (rsel ms near t l).length ≤ l.length := by
 unfold rsel
 rw [List.length_map]
 exact Nat.le_trans (List.length_filter_le _ _) (by simp)
theorem rsel_mem {ms : List (Nat × Nat)} {near : List Int} {t : Int} {l : List Cel} {r : Rw} (h : r ∈ rsel ms near t l) : ∃ c ∈ l, c.u = true ∧ r = ⟨c.id, c.v⟩ := by
 unfold rsel at h
 obtain ⟨p, hp, rfl⟩ := List.mem_map.1 h
 obtain ⟨h1, h2⟩ := List.mem_filter.1 hp
 simp only [Bool.and_eq_true] at h2
 exact ⟨p.1, List.mem_of_getElem? (List.mem_zipIdx_iff_getElem?.1 h1), h2.1, rfl⟩
theorem sel_rsel {a : Option (List Cel)} {ms : List (Nat × Nat)} {q : Vc} {c : List Vc} {m t : Int} (hA : okA a = true) (hM : mskU ms ms.length = true) (hl : ms.length = c.length) :
 sel (scnM ms (ixN q c m) (visM t a)).1 (scnM ms (ixN q c m) (visM t a)).2 (lst a) = rsel ms (near q c m) t (lst a) := by
 have hl96 : (lst a).length = 96 := by simp only [okA, Bool.and_eq_true, decide_eq_true_eq] at hA; exact hA.1
 unfold sel rsel
 congr 1
 refine List.filter_congr fun p hp => ?_
 have hp' := List.mem_zipIdx_iff_getElem?.1 hp
 have hlt : p.2 < 96 := by rw [← hl96]; exact (List.getElem?_eq_some_iff.1 hp').1
 have h1 := scn_tb hM hlt (ix := ixN q c m) (by rw [hl]; exact ixN_lt) (visM t a)
 have h2 := (mskL_ok t (lst a) 96 (by omega) (by omega)).2 p.2 (by omega)
 rw [← hl96, List.take_length, hl96, decide_eq_true hlt, hp'] at h2
 have h3 : visM t a = mskL t (lst a) := by unfold visM; rw [hA, if_pos rfl]
 rw [h1, h3, h2]
 have h4 : decide (∃ i ∈ ixN q c m, whr ms p.2 = (i : Int)) = decide (whr ms p.2 ∈ near q c m) := by
  refine decide_eq_decide.2 ⟨fun ⟨i, hi, e⟩ => ?_, fun h => ?_⟩
  ·obtain ⟨x, hx, rfl⟩ := List.mem_map.1 hi
   have := (near_pos x hx).1
   rw [e, Int.toNat_of_nonneg this]
   exact hx
  ·exact ⟨(whr ms p.2).toNat, List.mem_map.2 ⟨_, h, rfl⟩, (Int.toNat_of_nonneg (near_pos _ h).1).symm⟩
 rw [h4]
 simp only [Option.map_some, Option.getD_some, seenC, Bool.true_and]
 cases p.1.u <;> cases visB p.1.b p.1.e t <;> simp
def srR (a : Option (List Cel)) (c : Option (List Vc)) (ms : List (Nat × Nat)) (q : Vc) (k t m : Int) : Option (List Hit) :=
 if chkE q k m ≠ 0 then none else if okLs c ms = false then none else if okA a = false then none else if nrE c q m ≠ 0 then none
 else if dimsB q (rsel ms (near q (lst c) m) t (lst a)) = true then refF k.toNat ((rsel ms (near q (lst c) m) t (lst a)).map (hitQ q)) else none
theorem dims_same (q : Vc) (l : List Rw) : l.all (sameD q) = dimsB q l := by
 unfold sameD dimsB
 congr 1
 funext r
 exact decide_eq_decide.2 ⟨fun h => h.symm, fun h => h.symm⟩
theorem okLs_u {c : Option (List Vc)} {ms : List (Nat × Nat)} (h : okLs c ms = true) : mskU ms ms.length = true ∧ ms.length = (lst c).length := by
 unfold okLs at h; simp only [Bool.and_eq_true, decide_eq_true_eq] at h; exact ⟨h.2.2, h.2.1⟩
theorem lst_srR (a : Option (List Cel)) (c : Option (List Vc)) (ms : List (Nat × Nat)) (q : Vc) (k t m : Int) : lst (srR a c ms q k t m) = srL a c ms q k t m := by
 unfold srR srL
 by_cases h1 : chkE q k m ≠ 0
 ·rw [if_pos h1, if_pos h1]; rfl
 rw [if_neg h1, if_neg h1]
 by_cases h2 : okLs c ms = false
 ·rw [if_pos h2, if_pos h2]; rfl
 rw [if_neg h2, if_neg h2]
 by_cases h3 : okA a = false
 ·rw [if_pos h3, if_pos h3]; rfl
 rw [if_neg h3, if_neg h3]
 by_cases h4 : nrE c q m ≠ 0
 ·rw [if_pos h4, if_pos h4]; rfl
 rw [if_neg h4, if_neg h4]
 obtain ⟨hqe, oq, hk1, hk2, hm1⟩ := chk0 (by omega : chkE q k m = 0)
 have hO : okLs c ms = true := by simpa using h2
 have hA : okA a = true := by simpa using h3
 have hs : scanL a (scnM ms (ixN q (lst c) m) (visM t a)).1 (scnM ms (ixN q (lst c) m) (visM t a)).2 q k = itL q k.toNat (rsel ms (near q (lst c) m) t (lst a)) := by
  unfold scanL
  rw [if_neg (by rw [hqe]; simp), if_neg h3, sel_rsel hA (okLs_u hO).1 (okLs_u hO).2]
 rw [hs]
 unfold itL
 rw [dims_same]
 by_cases hd : dimsB q (rsel ms (near q (lst c) m) t (lst a)) = true
 ·rw [if_pos hd, if_pos hd, lst_refF]
 ·rw [if_neg hd, if_neg hd]; rfl
theorem nr_cn {c : Option (List Vc)} {q : Vc} {k m : Int} (h : chkE q k m = 0) : nrE c q m = cnE c q := by
 obtain ⟨hqe, oq, hk1, hk2, hm1⟩ := chk0 h
 have ha : askE m = 0 := by
  unfold chkE at h
  rw [if_neg (by omega), if_neg (by omega)] at h
  by_cases h3 : askE m = 0
  ·exact h3
  ·rw [if_pos h3] at h; exact h
 unfold nrE
 rw [if_neg (by omega), oq, if_pos rfl]
theorem r10 (a : Option (List Cel)) (c : Option (List Vc)) (ms : Option (List (Nat × Nat))) (q : Vc) (k t m : Int) (ha : SmA a) (hl : (lst c).length ≤ 7) (hv : ∀ v ∈ lst c, Sm v) (hml : (lst ms).length ≤ 7) (hm : ∀ m ∈ lst ms, WM m) (hq : Sm q) : res T 10 [.agg [slV 5 celV a], .agg [slV 1 vecV c, slV 2 mV ms], .agg [slV 1 i32V q, .int .i64 k, .int .u64 t, .int .i64 m]] = some (.tup [slV 2 hitV (srR a c (lst ms) q k t m), .int .i64 (srE a c (lst ms) q k t m)]) := by
 refine run_res (run_pure (fn := g10) rfl rfl (by decide) ?_)
 simp only [g10, b10, zO, zN, zM, zL, zG, zP, zQ, zI, zA, zT, zF, zB, zC, zD, zE, zH, zJ, zK]
 have f1 := f13 q k t m hq
 have f2 := f26 c ms (by omega) hv (by omega) hm
 have f3 := f27 a ha
 have f4 := f28 c q (by omega) hv
 by_cases he : chkE q k m = 0
 rotate_left
 ·have hd : (chkE q k m != 0) = true := by simpa using he
  have e1 : srE a c (lst ms) q k t m = chkE q k m := by simp [srE, he]
  have e2 : srR a c (lst ms) q k t m = none := by simp [srR, he]
  rw [e1, e2]
  simp +contextual -implicitDefEqProofs (maxSteps := 2000000) only [↓wP, wS, seval, f1, hd]
  rfl
 rw [he] at f1
 obtain ⟨hqe, oq, hk1, hk2, hm1⟩ := chk0 he
 cases hO : okLs c (lst ms)
 ·have e1 : srE a c (lst ms) q k t m = 230 := by simp [srE, he, hO]
  have e2 : srR a c (lst ms) q k t m = none := by simp [srR, he, hO]
  rw [e1, e2]
  rw [hO] at f2
  simp +contextual -implicitDefEqProofs (maxSteps := 2000000) only [↓wP, wS, seval, f1, f2]
  rfl
 rw [hO] at f2
 cases hA : okA a
 ·have e1 : srE a c (lst ms) q k t m = 190 := by simp [srE, he, hO, hA]
  have e2 : srR a c (lst ms) q k t m = none := by simp [srR, he, hO, hA]
  rw [hA] at f3
  rw [e1, e2]
  simp +contextual -implicitDefEqProofs (maxSteps := 2000000) only [↓wP, wS, seval, f1, f2, f3]
  rfl
 rw [hA] at f3
 rw [← nr_cn he] at f4
 by_cases hn : nrE c q m = 0
 rotate_left
 ·have hd : (nrE c q m != 0) = true := by simpa using hn
  have e1 : srE a c (lst ms) q k t m = nrE c q m := by simp [srE, he, hO, hA, hn]
  have e2 : srR a c (lst ms) q k t m = none := by simp [srR, he, hO, hA, hn]
  rw [e1, e2]
  simp +contextual -implicitDefEqProofs (maxSteps := 2000000) only [↓wP, wS, seval, f1, f2, f3, f4, hd]
  rfl
 rw [hn] at f4
 obtain ⟨ids, hids⟩ : ∃ ids, ids = near q (lst c) m := ⟨_, rfl⟩
 have e1 : srE a c (lst ms) q k t m = if dimsB q (rsel (lst ms) ids t (lst a)) = true then 0 else 151 := by
  have : srE a c (lst ms) q k t m = scanE a (scnM (lst ms) (ixN q (lst c) m) (visM t a)).1 (scnM (lst ms) (ixN q (lst c) m) (visM t a)).2 q k := by simp [srE, he, hO, hA, hn]
  rw [this]
  unfold scanE
  rw [if_neg (by rw [hqe]; simp), if_neg (by rw [hA]; simp), sel_rsel hA (okLs_u hO).1 (okLs_u hO).2, ← hids]
  unfold itE
  rw [dims_same]
 have e2 : srR a c (lst ms) q k t m = if dimsB q (rsel (lst ms) ids t (lst a)) = true then refF k.toNat ((rsel (lst ms) ids t (lst a)).map (hitQ q)) else none := by simp [srR, he, hO, hA, hn, ← hids]
 rw [e1, e2]
 obtain ⟨-, -, hce, hdm, hne⟩ := nr0 hn
 have f5 := f29 c q m hl (nr_two hce oq hdm) hm1
 rw [← hids] at f5
 have hal : (lst a).length = 96 := by simp only [okA, Bool.and_eq_true, decide_eq_true_eq] at hA; exact hA.1
 have hnl : ids.length ≤ 7 := by rw [hids, near_len _ _ _ (by omega)]; omega
 obtain ⟨X1, hX1⟩ : ∃ X1, X1 = Ob.row 1 [V.agg [slV 5 celV a]] := ⟨_, rfl⟩
 obtain ⟨X2, hX2⟩ : ∃ X2, X2 = Ob.row 2 [V.agg [slV 1 vecV c, slV 2 mV ms]] := ⟨_, rfl⟩
 obtain ⟨X3, hX3⟩ : ∃ X3, X3 = Ob.row 4 [V.agg [slV 1 i32V q, V.int .i64 k, V.int .u64 t, V.int .i64 m]] := ⟨_, rfl⟩
 obtain ⟨σ1, hσ1⟩ : ∃ σ1, σ1 = upd (upd (upd Sto.empty 0 (some (.row 1 [.agg [slV 5 celV a]]))) 1 (some (.row 2 [.agg [slV 1 vecV c, slV 2 mV ms]]))) 2 (some (.row 4 [.agg [slV 1 i32V q, .int .i64 k, .int .u64 t, .int .i64 m]])) := ⟨_, rfl⟩
 have s0 : σ1 0 = some (.row 1 [.agg [slV 5 celV a]]) := by rw [hσ1]; simp [upd]
 have s1 : σ1 1 = some (.row 2 [.agg [slV 1 vecV c, slV 2 mV ms]]) := by rw [hσ1]; simp [upd]
 have s2 : σ1 2 = some (.row 4 [.agg [slV 1 i32V q, .int .i64 k, .int .u64 t, .int .i64 m]]) := by rw [hσ1]; simp [upd]
 obtain ⟨kn, rfl⟩ : ∃ kn : Nat, k = (kn : Int) := ⟨k.toNat, by omega⟩
 rw [Int.toNat_natCast]
 simp +contextual -implicitDefEqProofs (maxSteps := 2000000) only [↓wP, wS, seval, ← hσ1, s0, s1, s2, f1, f2, f3, f4, f5]
 refine WC_for (lst a).length 0 (fun (j : Nat) env σ n => env 4 = .ptr 1 2 0 0 ∧ env 5 = .ptr 2 4 0 0 ∧ env 11 = slV 1 iV (oL ids) ∧ env 45 = slV 5 celV a ∧ 3 ≤ n ∧ σ 1 = some X2 ∧ σ 2 = some X3 ∧
  ∃ v, env 10 = v ∧ Pl σ 3 n 2 v (oL ((rsel (lst ms) ids t ((lst a).take j)).map rwV))) (by omega) (by decide) (by decide) (fun _ _ => rfl) (fun _ _ _ => rfl) ?_ ?_ _ _ _ rfl rfl ?_
 ·intro j env σ n hj g1 g2 ⟨k1, k2, k3, k4, k5, k6, k7, v, k9, k10⟩
  simp only [vl_tmp] at g2
  have hxo : (lst a)[j]? = some (lst a)[j] := List.getElem?_eq_getElem hj
  have htk : (lst a).take (j + 1) = (lst a).take j ++ [(lst a)[j]] := (List.take_append_getElem hj).symm
  have hsn := rsel_snoc (lst ms) ids t ((lst a).take j) (lst a)[j]
  rw [← htk, List.length_take, Nat.min_eq_left (by omega)] at hsn
  generalize (lst a)[j] = x at *
  have c30 := f30 x.b x.e x.v t
  have c31 := f31 (oL ids) (whr (lst ms) j) (by rw [lst_oL]; omega)
  have c32 := f32' c ms j (by omega) (by omega) hm
  rw [lst_oL] at c31
  have hc' := k10.cells
  have hsp := spl k10
  obtain ⟨σ2, hσ2⟩ : ∃ σ2, σ2 = upd (upd σ n (some (.row 5 [.agg [.bool false, .int .u64 0, .int .u64 0, .int .u64 0, .nilS]]))) n (some (.row 5 [.agg [.bool x.u, .int .u64 x.id, .int .u64 x.b, .int .u64 x.e, slV 1 i32V x.v]])) := ⟨_, rfl⟩
  have so : ∀ i, i < n → σ2 i = σ i := fun i hi => by rw [hσ2, upd_ne (by omega), upd_ne (by omega)]
  have sn : σ2 n = some (.row 5 [.agg [.bool x.u, .int .u64 x.id, .int .u64 x.b, .int .u64 x.e, slV 1 i32V x.v]]) := by rw [hσ2, upd_self]
  have t1 : σ2 1 = some (.row 2 [.agg [slV 1 vecV c, slV 2 mV ms]]) := by rw [so 1 (by omega), k6, hX2]
  have t2 : σ2 2 = some (.row 4 [.agg [slV 1 i32V q, .int .i64 (kn : Int), .int .u64 t, .int .i64 m]]) := by rw [so 2 (by omega), k7, hX3]
  cases hb : (x.u && (visB x.b x.e t && decide (whr (lst ms) j ∈ ids)))
  ·rw [hb, if_neg (by simp), List.append_nil] at hsn
   have fin : σ2 1 = some X2 ∧ σ2 2 = some X3 ∧ Pl σ2 3 (n + 1) 2 v (oL ((rsel (lst ms) ids t ((lst a).take (j + 1))).map rwV)) :=
    ⟨by rw [so 1 (by omega), k6], by rw [so 2 (by omega), k7], by rw [hsn]; exact k10.loc (fun i a b => so i b) (by omega)⟩
   cases hu : x.u
   ·rw [hu] at hσ2 sn
    simp +contextual -implicitDefEqProofs (maxSteps := 2000000) only [↓wP, wS, seval, g1, g2, k1, k2, k3, k4, k9, hxo, celV_eq, hu, ← hσ2, sn]
    exact ⟨by omega, by first | exact fin.1 | rw [hX2], by first | exact fin.2.1 | rw [hX3], v, rfl, fin.2.2⟩
   rw [hu] at hσ2 sn
   cases hvs : visB x.b x.e t
   ·rw [hvs] at c30
    simp +contextual -implicitDefEqProofs (maxSteps := 2000000) only [↓wP, wS, seval, g1, g2, k1, k2, k3, k4, k9, hxo, celV_eq, hu, ← hσ2, sn, t2, c30]
    exact ⟨by omega, by first | exact fin.1 | rw [hX2], by first | exact fin.2.1 | rw [hX3], v, rfl, fin.2.2⟩
   rw [hvs] at c30
   have hmm : decide (whr (lst ms) j ∈ ids) = false := by simpa [hu, hvs] using hb
   rw [hmm] at c31
   simp +contextual -implicitDefEqProofs (maxSteps := 2000000) only [↓wP, wS, seval, g1, g2, k1, k2, k3, k4, k9, hxo, celV_eq, hu, ← hσ2, sn, t1, t2, c30, c31, c32]
   exact ⟨by omega, by first | exact fin.1 | rw [hX2], by first | exact fin.2.1 | rw [hX3], v, rfl, fin.2.2⟩
  ·simp only [Bool.and_eq_true] at hb
   rw [hb.1, hb.2.1, hb.2.2] at hsn
   obtain ⟨hu, hvs, hmm⟩ := hb
   rw [hu] at hσ2 sn
   rw [hvs] at c30
   rw [hmm] at c31
   rw [Bool.and_true, Bool.and_true, if_pos rfl] at hsn
   have hll : ((rsel (lst ms) ids t ((lst a).take j)).map rwV).length ≤ 96 := by
    have := rsel_len (lst ms) ids t ((lst a).take j)
    rw [List.length_take] at this
    rw [List.length_map]; omega
   simp +contextual -implicitDefEqProofs (maxSteps := 2000000) only [↓wP, wS, seval, g1, g2, k1, k2, k3, k4, k9, hxo, celV_eq, hu, ← hσ2, sn, t1, t2, c30, c31, c32]
   refine stepW_app1 (m := 3) (n0 := n) (σ0 := σ) k10 (fun i a1 a2 => ?_) (by omega) (by omega) (Nat.zero_le _) ?_ (fun _ σ3 a1 a2 => ?_)
   ·rw [upd_ne (by omega), so i a2]
   ·rw [lst_oL]; unfold LIM; omega
   ·rw [lst_oL] at a1 ⊢
    have hv5 : ∀ i, i < 3 → ∀ off len s, v ≠ .ref i off len s := by
     intro i hi off len s e
     subst e
     cases ho' : oL ((rsel (lst ms) ids t ((lst a).take j)).map rwV) with
     | none => rw [ho'] at k10; simp only [Pl] at k10; cases k10
     | some xs => rw [ho'] at k10; obtain ⟨j, e, -, e2, -⟩ := k10; simp only [V.ref.injEq] at e; omega
    have u1 : σ3 1 = some X2 := by rw [a2 1 (by omega) (hv5 1 (by omega)), upd_ne (by omega), so 1 (by omega)]; exact k6
    have u2 : σ3 2 = some X3 := by rw [a2 2 (by omega) (hv5 2 (by omega)), upd_ne (by omega), so 2 (by omega)]; exact k7
    simp +contextual -implicitDefEqProofs (maxSteps := 2000000) only [↓wP, wS, seval, g1, g2, k1, k2, k3, k4, hc', hsp]
    refine ⟨u1, u2, _, rfl, ?_⟩
    rw [hsn, List.map_append]
    have e2 : oL ((rsel (lst ms) ids t ((lst a).take j)).map rwV ++ [(⟨x.id, x.v⟩ : Rw)].map rwV) = some ((rsel (lst ms) ids t ((lst a).take j)).map rwV ++ [.agg [.int .u64 x.id, slV 1 i32V x.v]]) := by
     cases rsel (lst ms) ids t ((lst a).take j) <;> rfl
    rw [e2]
    exact a1
 ·intro env σ n ⟨k1, k2, k3, k4, k5, k6, k7, v, k9, k10⟩ g1 g2
  rw [List.take_length] at k10
  obtain ⟨SL, hSL⟩ : ∃ SL, SL = rsel (lst ms) ids t (lst a) := ⟨_, rfl⟩
  have hSm : ∀ r ∈ SL, okV r.v = true := fun r hr => by
   rw [hSL] at hr
   obtain ⟨x, hx, hu, rfl⟩ := rsel_mem hr
   simp only [okA, Bool.and_eq_true] at hA
   have hk := List.all_eq_true.1 hA.2 _ hx
   simp only [okCel, hu, if_true, okVer, Bool.and_eq_true] at hk
   exact hk.2
  have hSl : SL.length ≤ 300 := by rw [hSL]; have := rsel_len (lst ms) ids t (lst a); omega
  rw [← hSL] at k10 ⊢
  have r33' := r33 (oL SL) q kn (by rw [lst_oL]; exact hSl) (by omega) (fun r hr' he => by
   rw [lst_oL] at hr'
   exact ⟨hSm r hr', oq, he⟩) hq
  rw [lst_oL] at r33'
  have hf := k10.frz (fun x hx => by rw [lst_oL] at hx; obtain ⟨y, -, rfl⟩ := List.mem_map.1 hx; simp [rwV_eq, Tr, Tr_slV]) (fun x hx c hc => by
   rw [lst_oL] at hx; obtain ⟨y, -, rfl⟩ := List.mem_map.1 hx
   simp only [rwV_eq, V.cells, List.mem_cons, List.not_mem_nil, or_false] at hc
   rcases hc with rfl | rfl
   ·rfl
   ·exact Tr_slV _ _ _ _)
  rw [slV_oL] at hf
  have e : [v, V.agg [slV 1 i32V q, .int .i64 (kn : Int)]].mapM (frz σ 12) = some [slV 2 rwV (oL SL), .agg [slV 1 i32V q, .int .i64 (kn : Int)]] := by
   have x1 : frz σ 12 (.agg [slV 1 i32V q, .int .i64 (kn : Int)]) = some (.agg [slV 1 i32V q, .int .i64 (kn : Int)]) := (frz_tr σ 12 _ (by simp [Tr, Tr_slV])).1
   simp only [List.mapM_cons, List.mapM_nil, hf, x1]; rfl
  obtain ⟨σ', f33⟩ := callE_sh (by decide) e r33' (fun σ n => by simp [thaw, thawL, thaw_slV]) n
  rw [hX3] at k7
  simp +contextual -implicitDefEqProofs (maxSteps := 2000000) only [↓wP, wS, seval, k2, k7, k9, f33]
 ·simp +contextual -implicitDefEqProofs (maxSteps := 2000000) only [↓wP, wS, seval]
  rw [hX2, hX3]
  exact ⟨s1, s2, by simp [rsel, oL, Pl]⟩
end Go.Q.SY
end

section
/- ProbeSearches. -/
namespace Go.Q.SY
open Go.Q Go.Sort
theorem f9 (a : Option (List Cel)) (c : Option (List Vc)) (ms : Option (List (Nat × Nat))) (q : Vc) (k t m : Int) (ha : SmA a) (hl : (lst c).length ≤ 7) (hv : ∀ v ∈ lst c, Sm v) (hml : (lst ms).length ≤ 7) (hm : ∀ m ∈ lst ms, WM m) (hq : Sm q) (fs : Bool) (σ : Sto) (n lk : Nat) :
 callE T fs 9 [.agg [slV 5 celV a], .agg [slV 1 vecV c, slV 2 mV ms], .agg [slV 1 i32V q, .int .i64 k, .int .u64 t, .int .i64 m]] σ n lk = some (.tup [slV 2 hitV (optH (srL a c (lst ms) q k t m)), .int .i64 (srE a c (lst ms) q k t m)], σ, n) :=
 callE_tr (by decide) (r9 a c ms q k t m ha hl hv hml hm hq) (by simp [Tr, Tr_slV]) (Nw_tup2 (Nw_slV 2 hitV _ 10) rfl) fs σ n lk
theorem f10 (a : Option (List Cel)) (c : Option (List Vc)) (ms : Option (List (Nat × Nat))) (q : Vc) (k t m : Int) (ha : SmA a) (hl : (lst c).length ≤ 7) (hv : ∀ v ∈ lst c, Sm v) (hml : (lst ms).length ≤ 7) (hm : ∀ m ∈ lst ms, WM m) (hq : Sm q) (fs : Bool) (σ : Sto) (n lk : Nat) :
 callE T fs 10 [.agg [slV 5 celV a], .agg [slV 1 vecV c, slV 2 mV ms], .agg [slV 1 i32V q, .int .i64 k, .int .u64 t, .int .i64 m]] σ n lk = some (.tup [slV 2 hitV (srR a c (lst ms) q k t m), .int .i64 (srE a c (lst ms) q k t m)], σ, n) :=
 callE_tr (by decide) (r10 a c ms q k t m ha hl hv hml hm hq) (by simp [Tr, Tr_slV]) (Nw_tup2 (Nw_slV 2 hitV _ 10) rfl) fs σ n lk
theorem cutA_sm (a : Option (List Cel)) : SmA (cutA a) := by
 unfold cutA
 refine ⟨by rw [lst_oL, List.length_map, List.length_take]; omega, fun c hc => ?_⟩
 rw [lst_oL] at hc
 obtain ⟨x, -, rfl⟩ := List.mem_map.1 hc
 show (lst (oL ((lst x.v).take 5))).length < _
 rw [lst_oL, List.length_take]; omega
theorem srL_len (a : Option (List Cel)) (c : Option (List Vc)) (ms : List (Nat × Nat)) (q : Vc) (k t m : Int) (ha : (lst a).length ≤ 97) : (srL a c ms q k t m).length ≤ 97 := by
 rw [← lst_srR]
 unfold srR
 have h0 : (lst (none : Option (List Hit))).length ≤ 97 := by simp [lst]
 repeat' split
 all_goals first | exact h0 | skip
 rw [lst_refF, fst_len, List.length_map]
 have := rsel_len ms (near q (lst c) m) t (lst a)
 omega
structure Pb where
 q : Vc
 k : Int
 t : Int
 n : Int
def pbV (p : Pb) : V := .agg [slV 1 i32V p.q, .int .i64 p.k, .int .u64 p.t, .int .i64 p.n]
theorem pbV_eq (p : Pb) : pbV p = .agg [slV 1 i32V p.q, .int .i64 p.k, .int .u64 p.t, .int .i64 p.n] := rfl
theorem r3 (x : Option (List Cel)) (y : Option (List Vc)) (z : Option (List (Nat × Nat))) (ps : Option (List Pb)) (hx : (lst x).length < 4611686018427387904) (hy : (lst y).length < 4611686018427387904) (hz : (lst z).length < 4611686018427387904) (hps : (lst ps).length < 4611686018427387904) (hxv : ∀ r ∈ lst x, Sm r.v) (hyv : ∀ v ∈ lst y, Sm v) (hzw : ∀ m ∈ lst z, WM m) (hpv : ∀ p ∈ lst ps, Sm p.q) :
 res T 3 [.agg [slV 5 celV x], .agg [slV 1 vecV y, slV 2 mV z], slV 4 pbV ps] = some (.bool true) := by
 refine run_res (run_pure (fn := g3) rfl rfl (by decide) ?_)
 simp only [g3, b3, zO, zN, zM, zL, zG, zP, zQ, zI, zA, zT, zF, zB, zC, zD, zE, zH, zJ, zK]
 have c6 := f6 x hx hxv
 have c7 := f7 y z hy hyv hz
 obtain ⟨a, ha⟩ : ∃ a, a = cutA x := ⟨_, rfl⟩
 obtain ⟨c, hc⟩ : ∃ c, c = cutV y := ⟨_, rfl⟩
 obtain ⟨ms, hms⟩ : ∃ ms, ms = some ((lst z).take 7) := ⟨_, rfl⟩
 have has : SmA a := by rw [ha]; exact cutA_sm x
 have hal : (lst a).length ≤ 97 := by rw [ha]; unfold cutA; rw [lst_oL, List.length_map, List.length_take]; omega
 have hcl : (lst c).length ≤ 7 := by rw [hc]; exact cutV_len y
 have hcv : ∀ v ∈ lst c, Sm v := by rw [hc]; exact cutV_sm y
 have hml : (lst ms).length ≤ 7 := by rw [hms, lst_some, List.length_take]; omega
 have hmw : ∀ m ∈ lst ms, WM m := by rw [hms, lst_some]; exact fun m hm => hzw m (List.mem_of_mem_take hm)
 rw [← ha] at c6
 rw [← hc, ← hms] at c7
 clear ha hc hms
 have hB := big_le
 obtain ⟨σ1, hσ1⟩ : ∃ σ1, σ1 = upd (upd Sto.empty 0 (some (.row 1 [.agg [slV 5 celV x]]))) 1 (some (.row 2 [.agg [slV 1 vecV y, slV 2 mV z]])) := ⟨_, rfl⟩
 have s0 : σ1 0 = some (.row 1 [.agg [slV 5 celV x]]) := by rw [hσ1]; simp [upd]
 have s1 : σ1 1 = some (.row 2 [.agg [slV 1 vecV y, slV 2 mV z]]) := by rw [hσ1]; simp [upd]
 have x0 : ∀ hid, hide σ1 2 2 hid 0 = σ1 0 := fun hid => hide_low _ _ _ _ (by omega) (Nat.le_refl _)
 have x1 : ∀ hid, hide σ1 2 2 hid 1 = σ1 1 := fun hid => hide_low _ _ _ _ (by omega) (Nat.le_refl _)
 have x2 : (3 ≤ 2 + BIG) = True := by simp; omega
 have x3 : ∀ b : Sto, merge σ1 b 2 2 = b 2 := fun b => merge_in _ _ _ (Nat.le_refl _) (by omega)
 have x4 : ∀ a b : Sto, merge a b (2 + BIG * 1) 2 = a 2 := fun a b => merge_low _ _ _ (by omega)
 have x5 : ∀ a b : Sto, merge a b (2 + BIG * 1) (2 + BIG * 1) = b (2 + BIG * 1) := fun a b => merge_in _ _ _ (Nat.le_refl _) (by omega)
 have x6 : (2 = 2 + BIG * 1) = False := by simp; omega
 have x7 : (2 + BIG * 1 = 2) = False := by simp; omega
 have x8 : (2 + (BIG * 1 + 1) ≤ 2 + (BIG * 1 + BIG)) = True := by simp; omega
 simp +contextual -implicitDefEqProofs (maxSteps := 2000000) only [↓wP, wS, seval, f5, c6, c7, ← hσ1, s0, s1, x0, x1, x2, x3, x4, x5, x6, x7, x8]
 refine WC_for (lst ps).length 0 (fun (j : Nat) env σ n => env 22 = slV 4 pbV ps ∧ env 7 = .ptr 2 1 0 0 ∧ env 8 = .ptr (2 + BIG * 1) 2 0 0 ∧ 2 + BIG * 2 ≤ n ∧ σ 2 = some (.row 1 [.agg [slV 5 celV a]]) ∧ σ (2 + BIG * 1) = some (.row 2 [.agg [slV 1 vecV c, slV 2 mV ms]])) (by omega) (by decide) (by decide) (fun _ _ => rfl) (fun _ _ _ => rfl) ?_ ?_ _ _ _ rfl rfl ?_
 ·intro j env σ n hj h1 h2 ⟨g1, g2, g3, g4, g5, g6⟩
  simp only [vl_tmp] at h2
  have hxj : (lst ps)[j]? = some (lst ps)[j] := List.getElem?_eq_getElem hj
  have hm := hpv _ (List.getElem_mem hj)
  generalize (lst ps)[j] = p at *
  obtain ⟨σ2, hσ2⟩ : ∃ σ2, σ2 = upd (upd σ n (some (.row 4 [.agg [.nilS, .int .i64 0, .int .u64 0, .int .i64 0]]))) n (some (.row 4 [.agg [slV 1 i32V p.q, .int .i64 p.k, .int .u64 p.t, .int .i64 p.n]])) := ⟨_, rfl⟩
  have sn : σ2 n = some (.row 4 [.agg [slV 1 i32V p.q, .int .i64 p.k, .int .u64 p.t, .int .i64 p.n]]) := by rw [hσ2, upd_self]
  by_cases h8 : (j : Int) = 8
  ·have h8' : ((j : Int) == 8) = true := by simpa using h8
   simp +contextual -implicitDefEqProofs (maxSteps := 2000000) only [↓wP, wS, seval, h1, h2, g1, g2, g3, hxj, pbV_eq, h8']
  ·have h8' : ((j : Int) == 8) = false := by simpa using h8
   have c8 := f8 p.q p.k p.t p.n hm
   obtain ⟨q, hq⟩ : ∃ q, q = cut p.q := ⟨_, rfl⟩
   have hqs : Sm q := by rw [hq]; exact cut_sm p.q
   rw [← hq] at c8
   obtain ⟨σ3, hσ3⟩ : ∃ σ3, σ3 = upd σ2 n (some (.row 4 [.agg [slV 1 i32V q, .int .i64 p.k, .int .u64 p.t, .int .i64 p.n]])) := ⟨_, rfl⟩
   have t3 : σ3 n = some (.row 4 [.agg [slV 1 i32V q, .int .i64 p.k, .int .u64 p.t, .int .i64 p.n]]) := by rw [hσ3, upd_self]
   have so3 : ∀ i, i < n → σ3 i = σ i := fun i hi => by rw [hσ3, upd_ne (by omega), hσ2, upd_ne (by omega), upd_ne (by omega)]
   have u1 : σ3 2 = some (.row 1 [.agg [slV 5 celV a]]) := by rw [so3 2 (by omega), g5]
   have u2 : σ3 (2 + BIG * 1) = some (.row 2 [.agg [slV 1 vecV c, slV 2 mV ms]]) := by rw [so3 _ (by omega), g6]
   have c9 := f9 a c ms q p.k p.t p.n has hcl hcv hml hmw hqs
   have c10 := f10 a c ms q p.k p.t p.n has hcl hcv hml hmw hqs
   have hR := lst_srR a c (lst ms) q p.k p.t p.n
   have hll := srL_len a c (lst ms) q p.k p.t p.n hal
   obtain ⟨E, hE⟩ : ∃ E, E = srE a c (lst ms) q p.k p.t p.n := ⟨_, rfl⟩
   obtain ⟨L, hL⟩ : ∃ L, L = srL a c (lst ms) q p.k p.t p.n := ⟨_, rfl⟩
   rw [← hE] at c9 c10
   rw [← hL] at c9 hR hll
   generalize srR a c (lst ms) q p.k p.t p.n = R at *
   have c11 : ∀ fs σ n lk, callE T fs 11 [slV 2 hitV (optH L), slV 2 hitV R] σ n lk = some (.bool true, σ, n) := fun fs σ n lk => by
    have h1 := Hf.tree σ (optH L)
    have h2 := Hf.tree σ R
    rw [hR] at h2
    rw [lst_optH] at h1
    have := f11 h1 h2 (by omega) fs n lk
    rw [this]
    simp
   have c12 := f12 q p.k p.t p.n hqs
   have c13 := f13 q p.k p.t p.n hqs
   have q1 : (2 = n) = False := by simp; omega
   have q2 : (2 + BIG * 1 = n) = False := by simp; omega
   simp +contextual -implicitDefEqProofs (maxSteps := 2000000) only [↓wP, wS, seval, h1, h2, g1, g2, g3, g5, g6, hxj, pbV_eq, h8', ← hσ2, sn, c8, ← hσ3, t3, u1, u2, c9, c10, c11, c12, c13, q1, q2, bne_self_eq_false]
   omega
 ·intro env σ n ⟨g1, g2, g3, g4, g5, g6⟩ h1 h2
  simp +contextual -implicitDefEqProofs (maxSteps := 2000000) only [↓wP, wS, seval]
 ·simp +contextual -implicitDefEqProofs (maxSteps := 2000000) only [↓wP, wS, seval]
  rw [if_neg (by omega)]
end Go.Q.SY
end
