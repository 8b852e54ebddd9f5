/- Small functions of seat 08. -/
import Derived.Test.YtdpinpbjfdobnaaSA
import Derived.Test.YtdpinpbjfdobnaaProg
import Derived.KernelRfl
import Derived.Sort.Defs
import Derived.Sort.AssemblyPlain
section
set_option linter.unusedSimpArgs false
set_option linter.unusedVariables false
namespace Go.Q.S11
open Go.Q

structure Ver where
  b : Int
  e : Int
  v : Option (List Int)

def i32V (x : Int) : V := .int .i32 x
structure OpV where
  k : Int
  ts : Int
  near : Bool
  v : Option (List Int)
def okI (x : Int) : Bool := decide (-1073741823 ≤ x) && decide (x ≤ 1073741823)

theorem r61 (x : Int) : res T 61 [.int .i32 x] = some (.bool (!okI x)) := by
  refine run_res (run_pure (fn := g61) rfl rfl (by decide) ?_)
  simp only [g61, b61]
  simp +contextual -implicitDefEqProofs (maxSteps := 2000000) only [↓wP, wQ, wQ1, wQ2, wQ3, wR, boxE, partsOf, ↓reduceIte, Nat.reduceEqDiff, Nat.reduceAdd, Nat.reduceSub, Nat.reduceLeDiff, Nat.reduceLT, Nat.reduceMul, reduceCtorEq, Int.reduceBNe, Int.reduceBEq, Int.reduceLT, Int.reduceLE, Int.reduceGT]
  simp only [okI, Option.some.injEq, V.bool.injEq, Bool.not_and]
  congr 1 <;> simp only [← decide_not, Int.not_le]

theorem f61 (x : Int) (fs : Bool) (σ : Sto) (n lk : Nat) : callE T fs 61 [.int .i32 x] σ n lk = some (.bool (!okI x), σ, n) :=
  callE_tr (by decide) (r61 x) (by simp [Tr, Tr_slV]) rfl fs σ n lk

def idxF {α : Type} (p : α → Bool) (l : List α) : Int := match l.findIdx? p with
  | some i => i
  | none => -1

theorem r82 (o : Option (List Int)) (F : Nat) (caps : List V) (p : Int → Bool) (hl : (lst o).length < 9223372036854775808)     (hp : ∀ x fs σ n lk, callE T fs F (i32V x :: caps) σ n lk = some (.bool (p x), σ, n)) : res T 82 [slV 1 i32V o, .fn F caps] = some (.int .i64 (idxF p (lst o))) := by
  refine run_res (run_pure (fn := g82) rfl rfl (by decide) ?_)
  simp only [g82, b82]
  simp +contextual -implicitDefEqProofs (maxSteps := 2000000) only [↓wP, wQ, wQ1, wQ2, wQ3, wR, boxE, partsOf, ↓reduceIte, Nat.reduceEqDiff, Nat.reduceAdd, Nat.reduceSub, Nat.reduceLeDiff, Nat.reduceLT, Nat.reduceMul, reduceCtorEq, Int.reduceBNe, Int.reduceBEq, Int.reduceLT, Int.reduceLE, Int.reduceGT]
  refine WC_for (lst o).length 0 (fun (j : Nat) env _ _ => env 0 = slV 1 i32V o ∧ env 1 = .fn F caps ∧ (lst o).findIdx? p = (((lst o).drop j).findIdx? p).map (· + j)) (by omega) (by decide) (by decide) (fun _ _ => rfl) (fun _ _ _ => rfl) ?_ ?_ _ _ _ rfl rfl ?_
  · intro j env σ n hj h1 h2 ⟨h3, h4, h5⟩
    simp only [vl_tmp] at h2
    have hx : (lst o)[j]? = some (lst o)[j] := List.getElem?_eq_getElem hj
    have hp' := hp (lst o)[j]
    simp only [i32V] at hp'
    simp +contextual -implicitDefEqProofs (maxSteps := 2000000) only [↓wP, wQ, wQ1, wQ2, wQ3, wR, boxE, partsOf, ↓reduceIte, Nat.reduceEqDiff, Nat.reduceAdd, Nat.reduceSub, Nat.reduceLeDiff, Nat.reduceLT, Nat.reduceMul, reduceCtorEq, Int.reduceBNe, Int.reduceBEq, Int.reduceLT, Int.reduceLE, Int.reduceGT, h1, h2, h3, h4, hx, i32V, hp']
    rw [List.drop_eq_getElem_cons hj, List.findIdx?_cons] at h5
    refine condC_split (fun hb => ?_) (fun hb => ?_)
    · simp +contextual -implicitDefEqProofs (maxSteps := 2000000) only [↓wP, wQ, wQ1, wQ2, wQ3, wR, boxE, partsOf, ↓reduceIte, Nat.reduceEqDiff, Nat.reduceAdd, Nat.reduceSub, Nat.reduceLeDiff, Nat.reduceLT, Nat.reduceMul, reduceCtorEq, Int.reduceBNe, Int.reduceBEq, Int.reduceLT, Int.reduceLE, Int.reduceGT]
      simp [idxF, h5, hb]
    · simp +contextual -implicitDefEqProofs (maxSteps := 2000000) only [↓wP, wQ, wQ1, wQ2, wQ3, wR, boxE, partsOf, ↓reduceIte, Nat.reduceEqDiff, Nat.reduceAdd, Nat.reduceSub, Nat.reduceLeDiff, Nat.reduceLT, Nat.reduceMul, reduceCtorEq, Int.reduceBNe, Int.reduceBEq, Int.reduceLT, Int.reduceLE, Int.reduceGT, h1, h2, h3, h4]
      rw [h5, hb]
      simp only [Bool.false_eq_true, if_false, Option.map_map, Function.comp_def]
      congr 1; funext i; omega
  · intro env σ n ⟨h3, h4, h5⟩ h1 h2
    simp +contextual -implicitDefEqProofs (maxSteps := 2000000) only [↓wP, wQ, wQ1, wQ2, wQ3, wR, boxE, partsOf, ↓reduceIte, Nat.reduceEqDiff, Nat.reduceAdd, Nat.reduceSub, Nat.reduceLeDiff, Nat.reduceLT, Nat.reduceMul, reduceCtorEq, Int.reduceBNe, Int.reduceBEq, Int.reduceLT, Int.reduceLE, Int.reduceGT]
    simp [idxF, h5]
  · exact ⟨rfl, rfl, by simp⟩

theorem idxF_any {α : Type} (p : α → Bool) (l : List α) : decide (0 ≤ idxF p l) = l.any p := by
  unfold idxF
  cases h : l.findIdx? p with
  | none =>
    simp only [List.findIdx?_eq_none_iff] at h
    simp only [Int.reduceNeg, Int.reduceLE, decide_false]
    exact (List.any_eq_false.2 fun x hx => by simp [h x hx]).symm
  | some i =>
    simp only [List.findIdx?_eq_some_iff_getElem] at h
    obtain ⟨h, h1, -⟩ := h
    simp only [Int.natCast_nonneg, decide_true]
    exact (List.any_eq_true.2 ⟨_, List.getElem_mem h, h1⟩).symm

theorem r62 (o : Option (List Int)) (hl : (lst o).length < 9223372036854775808) : res T 62 [slV 1 i32V o, .fn 61 []] = some (.bool ((lst o).any fun x => !okI x)) := by
  refine run_res (run_pure (fn := g62) rfl rfl (by decide) ?_)
  simp only [g62, b62]
  have h := r82 o 61 [] (fun x => !okI x) hl (fun x fs σ n lk => f61 x fs σ n lk)
  have hm : T.mode 82 ≠ .raw := by decide
  simp +contextual -implicitDefEqProofs (maxSteps := 2000000) only [↓wP, wQ, wQ1, wQ2, wQ3, wR, boxE, partsOf, ↓reduceIte, Nat.reduceEqDiff, Nat.reduceAdd, Nat.reduceSub, Nat.reduceLeDiff, Nat.reduceLT, Nat.reduceMul, reduceCtorEq, Int.reduceBNe, Int.reduceBEq, Int.reduceLT, Int.reduceLE, Int.reduceGT, h, callE_eq hm, idxF_any]

theorem f62 (o : Option (List Int)) (hl : (lst o).length < 9223372036854775808) (fs : Bool) (σ : Sto) (n lk : Nat) : callE T fs 62 [slV 1 i32V o, .fn 61 []] σ n lk = some (.bool ((lst o).any fun x => !okI x), σ, n) :=
  callE_tr (by decide) (r62 o hl) (by simp [Tr, Tr_slV]) rfl fs σ n lk

def okV (o : Option (List Int)) : Bool := decide (0 < (lst o).length) && decide ((lst o).length ≤ 4) && (lst o).all okI

theorem r38 (o : Option (List Int)) (hl : (lst o).length < 9223372036854775808) : res T 38 [slV 1 i32V o] = some (.int .i64 (if okV o then 0 else 150)) := by
  refine run_res (run_pure (fn := g38) rfl rfl (by decide) ?_)
  simp only [g38, b38]
  have h := f62 o hl
  simp +contextual -implicitDefEqProofs (maxSteps := 2000000) only [↓wP, wQ, wQ1, wQ2, wQ3, wR, boxE, partsOf, ↓reduceIte, Nat.reduceEqDiff, Nat.reduceAdd, Nat.reduceSub, Nat.reduceLeDiff, Nat.reduceLT, Nat.reduceMul, reduceCtorEq, Int.reduceBNe, Int.reduceBEq, Int.reduceLT, Int.reduceLE, Int.reduceGT, h]
  have hk : (decide (((lst o).length : Int) < 1) || decide (4 < ((lst o).length : Int)) || (lst o).any fun x => !okI x) = !okV o := by
    unfold okV
    rw [Bool.not_and, Bool.not_and, List.not_all_eq_any_not, ← decide_not, ← decide_not]
    congr 2 <;> exact decide_eq_decide.2 (by omega)
  rw [hk]
  cases hb : okV o <;> simp +contextual -implicitDefEqProofs (maxSteps := 2000000) only [↓wP, wQ, wQ1, wQ2, wQ3, wR, boxE, partsOf, ↓reduceIte, Nat.reduceEqDiff, Nat.reduceAdd, Nat.reduceSub, Nat.reduceLeDiff, Nat.reduceLT, Nat.reduceMul, reduceCtorEq, Int.reduceBNe, Int.reduceBEq, Int.reduceLT, Int.reduceLE, Int.reduceGT]

theorem f38 (o : Option (List Int)) (hl : (lst o).length < 9223372036854775808) (fs : Bool) (σ : Sto) (n lk : Nat) : callE T fs 38 [slV 1 i32V o] σ n lk = some (.int .i64 (if okV o then 0 else 150), σ, n) :=
  callE_tr (by decide) (r38 o hl) (by simp [Tr, Tr_slV]) rfl fs σ n lk

end Go.Q.S11
end

section
/- More functions of seat 08: equality, what may be, last traces. -/
set_option linter.unusedSimpArgs false
set_option linter.unusedVariables false
namespace Go.Q.S11
open Go.Q

theorem eq_drop {α : Type} [BEq α] {a b : List α} {j : Nat} (ha : j < a.length) (hb : j < b.length) : (a.drop j == b.drop j) = (a[j] == b[j] && a.drop (j + 1) == b.drop (j + 1)) := by
  rw [List.drop_eq_getElem_cons ha, List.drop_eq_getElem_cons hb]
  rfl

theorem eq_len {α : Type} [BEq α] : ∀ {a b : List α}, a.length ≠ b.length → (a == b) = false
  | [], [], h => absurd rfl h
  | [], _ :: _, _ => rfl
  | _ :: _, [], _ => rfl
  | x :: a, y :: b, h => by
    show (x == y && a == b) = false
    rw [eq_len (a := a) (b := b) (by simpa using h)]
    simp

theorem r105 (a b : Option (List Int)) (ha : (lst a).length < 9223372036854775808) : res T 105 [slV 1 i32V a, slV 1 i32V b] = some (.bool (lst a == lst b)) := by
  refine run_res (run_pure (fn := g105) rfl rfl (by decide) ?_)
  simp only [g105, b105]
  simp +contextual -implicitDefEqProofs (maxSteps := 2000000) only [↓wP, wQ, wQ1, wQ2, wQ3, wR, boxE, partsOf, ↓reduceIte, Nat.reduceEqDiff, Nat.reduceAdd, Nat.reduceSub, Nat.reduceLeDiff, Nat.reduceLT, Nat.reduceMul, reduceCtorEq, Int.reduceBNe, Int.reduceBEq, Int.reduceLT, Int.reduceLE, Int.reduceGT]
  by_cases hl : (lst a).length = (lst b).length
  · have hd : (((lst a).length : Int) != ((lst b).length : Int)) = false := by simp [hl]
    simp +contextual -implicitDefEqProofs (maxSteps := 2000000) only [↓wP, wQ, wQ1, wQ2, wQ3, wR, boxE, partsOf, ↓reduceIte, Nat.reduceEqDiff, Nat.reduceAdd, Nat.reduceSub, Nat.reduceLeDiff, Nat.reduceLT, Nat.reduceMul, reduceCtorEq, Int.reduceBNe, Int.reduceBEq, Int.reduceLT, Int.reduceLE, Int.reduceGT, hd]
    refine WC_for (lst a).length 0 (fun (j : Nat) env _ _ => env 0 = slV 1 i32V a ∧ env 1 = slV 1 i32V b ∧ (lst a == lst b) = ((lst a).drop j == (lst b).drop j)) (by omega) (by decide) (by decide) (fun _ _ => rfl) (fun _ _ _ => rfl) ?_ ?_ _ _ _ rfl rfl ?_
    · intro j env σ n hj h1 h2 ⟨h3, h4, h5⟩
      simp only [vl_tmp] at h2
      have hjb : j < (lst b).length := by omega
      have hx : (lst a)[j]? = some (lst a)[j] := List.getElem?_eq_getElem hj
      have hy : (lst b)[j]? = some (lst b)[j] := List.getElem?_eq_getElem hjb
      rw [eq_drop hj hjb] at h5
      simp +contextual -implicitDefEqProofs (maxSteps := 2000000) only [↓wP, wQ, wQ1, wQ2, wQ3, wR, boxE, partsOf, ↓reduceIte, Nat.reduceEqDiff, Nat.reduceAdd, Nat.reduceSub, Nat.reduceLeDiff, Nat.reduceLT, Nat.reduceMul, reduceCtorEq, Int.reduceBNe, Int.reduceBEq, Int.reduceLT, Int.reduceLE, Int.reduceGT, h1, h2, h3, h4, hx, hy, i32V]
      refine condC_split (fun hb => ?_) (fun hb => ?_)
      · have e1 : ((lst a)[j] == (lst b)[j]) = false := by simpa using hb
        rw [e1, Bool.false_and] at h5
        simp +contextual -implicitDefEqProofs (maxSteps := 2000000) only [↓wP, wQ, wQ1, wQ2, wQ3, wR, boxE, partsOf, ↓reduceIte, Nat.reduceEqDiff, Nat.reduceAdd, Nat.reduceSub, Nat.reduceLeDiff, Nat.reduceLT, Nat.reduceMul, reduceCtorEq, Int.reduceBNe, Int.reduceBEq, Int.reduceLT, Int.reduceLE, Int.reduceGT, h5]
      · have e1 : ((lst a)[j] == (lst b)[j]) = true := by simpa using hb
        rw [e1, Bool.true_and] at h5
        simp +contextual -implicitDefEqProofs (maxSteps := 2000000) only [↓wP, wQ, wQ1, wQ2, wQ3, wR, boxE, partsOf, ↓reduceIte, Nat.reduceEqDiff, Nat.reduceAdd, Nat.reduceSub, Nat.reduceLeDiff, Nat.reduceLT, Nat.reduceMul, reduceCtorEq, Int.reduceBNe, Int.reduceBEq, Int.reduceLT, Int.reduceLE, Int.reduceGT, h1, h2, h3, h4, h5]
    · intro env σ n ⟨h3, h4, h5⟩ h1 h2
      have e : (lst b).drop (lst a).length = [] := by rw [hl, List.drop_length]
      rw [List.drop_length, e] at h5
      simp +contextual -implicitDefEqProofs (maxSteps := 2000000) only [↓wP, wQ, wQ1, wQ2, wQ3, wR, boxE, partsOf, ↓reduceIte, Nat.reduceEqDiff, Nat.reduceAdd, Nat.reduceSub, Nat.reduceLeDiff, Nat.reduceLT, Nat.reduceMul, reduceCtorEq, Int.reduceBNe, Int.reduceBEq, Int.reduceLT, Int.reduceLE, Int.reduceGT, h5]
    · exact ⟨rfl, rfl, by simp⟩
  · have hd : (((lst a).length : Int) != ((lst b).length : Int)) = true := by simp; omega
    have h5 := eq_len (a := lst a) (b := lst b) hl
    simp +contextual -implicitDefEqProofs (maxSteps := 2000000) only [↓wP, wQ, wQ1, wQ2, wQ3, wR, boxE, partsOf, ↓reduceIte, Nat.reduceEqDiff, Nat.reduceAdd, Nat.reduceSub, Nat.reduceLeDiff, Nat.reduceLT, Nat.reduceMul, reduceCtorEq, Int.reduceBNe, Int.reduceBEq, Int.reduceLT, Int.reduceLE, Int.reduceGT, hd, h5]

theorem f105 (a b : Option (List Int)) (ha : (lst a).length < 9223372036854775808) (fs : Bool) (σ : Sto) (n lk : Nat) : callE T fs 105 [slV 1 i32V a, slV 1 i32V b] σ n lk = some (.bool (lst a == lst b), σ, n) :=
  callE_tr (by decide) (r105 a b ha) (by simp [Tr, Tr_slV]) rfl fs σ n lk

theorem r92 (a b : Option (List Int)) (ha : (lst a).length < 9223372036854775808) : res T 92 [slV 1 i32V a, slV 1 i32V b] = some (.bool (lst a == lst b)) := by
  refine run_res (run_pure (fn := g92) rfl rfl (by decide) ?_)
  simp only [g92, b92]
  have h := f105 a b ha
  simp +contextual -implicitDefEqProofs (maxSteps := 2000000) only [↓wP, wQ, wQ1, wQ2, wQ3, wR, boxE, partsOf, ↓reduceIte, Nat.reduceEqDiff, Nat.reduceAdd, Nat.reduceSub, Nat.reduceLeDiff, Nat.reduceLT, Nat.reduceMul, reduceCtorEq, Int.reduceBNe, Int.reduceBEq, Int.reduceLT, Int.reduceLE, Int.reduceGT, h]

theorem f92 (a b : Option (List Int)) (ha : (lst a).length < 9223372036854775808) (fs : Bool) (σ : Sto) (n lk : Nat) : callE T fs 92 [slV 1 i32V a, slV 1 i32V b] σ n lk = some (.bool (lst a == lst b), σ, n) :=
  callE_tr (by decide) (r92 a b ha) (by simp [Tr, Tr_slV]) rfl fs σ n lk

theorem r22 (a : Option (List Int)) (ha : (lst a).length < 9223372036854775808) : res T 22 [slV 1 i32V a] = some (.bool (okV a)) := by
  refine run_res (run_pure (fn := g22) rfl rfl (by decide) ?_)
  simp only [g22, b22]
  simp +contextual -implicitDefEqProofs (maxSteps := 2000000) only [↓wP, wQ, wQ1, wQ2, wQ3, wR, boxE, partsOf, ↓reduceIte, Nat.reduceEqDiff, Nat.reduceAdd, Nat.reduceSub, Nat.reduceLeDiff, Nat.reduceLT, Nat.reduceMul, reduceCtorEq, Int.reduceBNe, Int.reduceBEq, Int.reduceLT, Int.reduceLE, Int.reduceGT]
  refine WC_loopI 0 (fun (j : Nat) env _ _ => j ≤ (lst a).length ∧ env 3 = .int .i64 (j : Int) ∧ env 0 = slV 1 i32V a ∧ (lst a).all okI = ((lst a).drop j).all okI)
    (fun j => (lst a).length - j) ?_ 0 _ _ _ ⟨Nat.zero_le _, rfl, rfl, by simp⟩
  intro j env σ n ⟨h0, h1, h3, h5⟩
  by_cases hj : j < (lst a).length
  · have hd : decide ((j : Int) < ((lst a).length : Int)) = true := by simp [hj]
    have hw : IntKind.i64.wrap ((j : Int) + 1) = ((j + 1 : Nat) : Int) := by rw [wrap_i64] <;> omega
    have hx : (lst a)[j]? = some (lst a)[j] := List.getElem?_eq_getElem hj
    rw [List.drop_eq_getElem_cons hj, List.all_cons] at h5
    simp +contextual -implicitDefEqProofs (maxSteps := 2000000) only [↓wP, wQ, wQ1, wQ2, wQ3, wR, boxE, partsOf, ↓reduceIte, Nat.reduceEqDiff, Nat.reduceAdd, Nat.reduceSub, Nat.reduceLeDiff, Nat.reduceLT, Nat.reduceMul, reduceCtorEq, Int.reduceBNe, Int.reduceBEq, Int.reduceLT, Int.reduceLE, Int.reduceGT, h1, h3, hx, i32V, hd]
    refine condC_split (fun hb => ?_) (fun hb => ?_)
    · have e1 : okI (lst a)[j] = false := by simp [okI] at hb ⊢; omega
      rw [e1, Bool.false_and] at h5
      have h6 : okV a = false := by simp [okV, h5]
      simp +contextual -implicitDefEqProofs (maxSteps := 2000000) only [↓wP, wQ, wQ1, wQ2, wQ3, wR, boxE, partsOf, ↓reduceIte, Nat.reduceEqDiff, Nat.reduceAdd, Nat.reduceSub, Nat.reduceLeDiff, Nat.reduceLT, Nat.reduceMul, reduceCtorEq, Int.reduceBNe, Int.reduceBEq, Int.reduceLT, Int.reduceLE, Int.reduceGT, h6]
    · have e1 : okI (lst a)[j] = true := by simp [okI] at hb ⊢; omega
      rw [e1, Bool.true_and] at h5
      simp +contextual -implicitDefEqProofs (maxSteps := 2000000) only [↓wP, wQ, wQ1, wQ2, wQ3, wR, boxE, partsOf, ↓reduceIte, Nat.reduceEqDiff, Nat.reduceAdd, Nat.reduceSub, Nat.reduceLeDiff, Nat.reduceLT, Nat.reduceMul, reduceCtorEq, Int.reduceBNe, Int.reduceBEq, Int.reduceLT, Int.reduceLE, Int.reduceGT, h1, h3, hw]
      exact ⟨j + 1, by omega, by omega, rfl, h5⟩
  · have hd : decide ((j : Int) < ((lst a).length : Int)) = false := by simp; omega
    have e1 : (lst a).drop j = [] := by rw [List.drop_eq_nil_iff]; omega
    rw [e1, List.all_nil] at h5
    have h6 : okV a = (decide (1 ≤ ((lst a).length : Int)) && decide (((lst a).length : Int) ≤ 4)) := by
      unfold okV
      rw [h5, Bool.and_true]
      congr 1 <;> exact decide_eq_decide.2 (by omega)
    simp +contextual -implicitDefEqProofs (maxSteps := 2000000) only [↓wP, wQ, wQ1, wQ2, wQ3, wR, boxE, partsOf, ↓reduceIte, Nat.reduceEqDiff, Nat.reduceAdd, Nat.reduceSub, Nat.reduceLeDiff, Nat.reduceLT, Nat.reduceMul, reduceCtorEq, Int.reduceBNe, Int.reduceBEq, Int.reduceLT, Int.reduceLE, Int.reduceGT, h1, h3, hd, h6]

theorem f22 (a : Option (List Int)) (ha : (lst a).length < 9223372036854775808) (fs : Bool) (σ : Sto) (n lk : Nat) : callE T fs 22 [slV 1 i32V a] σ n lk = some (.bool (okV a), σ, n) :=
  callE_tr (by decide) (r22 a ha) (by simp [Tr, Tr_slV]) rfl fs σ n lk

end Go.Q.S11
end

section
/- Cells and arenas. -/
set_option linter.unusedSimpArgs false
set_option linter.unusedVariables false
namespace Go.Q.S11
open Go.Q

structure Cel where
  u : Bool
  id : Int
  b : Int
  e : Int
  v : Option (List Int)

def celV (c : Cel) : V := .agg [.bool c.u, .int .u64 c.id, .int .u64 c.b, .int .u64 c.e, slV 1 i32V c.v]
def verV (b e : Int) (v : Option (List Int)) : V := .agg [.int .u64 b, .int .u64 e, slV 1 i32V v]

def okVer (b e : Int) (v : Option (List Int)) : Bool := decide (1 ≤ b) && decide (b ≤ 1099511627776) && (e == 0 || (decide (b < e) && decide (e ≤ 1099511627776))) && okV v
def okCel (c : Cel) : Bool := if c.u then okVer c.b c.e c.v else c.id == 0 && c.b == 0 && c.e == 0 && decide ((lst c.v).length = 0)
def okA (a : Option (List Cel)) : Bool := decide ((lst a).length = 96) && (lst a).all okCel

def SmA (a : Option (List Cel)) : Prop := (lst a).length < 9223372036854775808 ∧ ∀ c ∈ lst a, (lst c.v).length < 9223372036854775808

theorem r78 (b e : Int) (v : Option (List Int)) (hv : (lst v).length < 9223372036854775808) : res T 78 [.agg [.int .u64 b, .int .u64 e, slV 1 i32V v]] = some (.int .i64 (if okVer b e v then 0 else 171)) := by
  refine run_res (run_pure (fn := g78) rfl rfl (by decide) ?_)
  simp only [g78, b78]
  have h := f38 v hv
  cases ho : okV v
  · rw [ho] at h
    have hk : okVer b e v = false := by simp [okVer, ho]
    by_cases he : e = 0
    · subst he
      simp +contextual -implicitDefEqProofs (maxSteps := 2000000) only [↓wP, wQ, wQ1, wQ2, wQ3, wR, boxE, partsOf, ↓reduceIte, Nat.reduceEqDiff, Nat.reduceAdd, Nat.reduceSub, Nat.reduceLeDiff, Nat.reduceLT, Nat.reduceMul, reduceCtorEq, Int.reduceBNe, Int.reduceBEq, Int.reduceLT, Int.reduceLE, Int.reduceGT, h, hk]
    · have hd : (e == 0) = false := by simpa using he
      simp +contextual -implicitDefEqProofs (maxSteps := 2000000) only [↓wP, wQ, wQ1, wQ2, wQ3, wR, boxE, partsOf, ↓reduceIte, Nat.reduceEqDiff, Nat.reduceAdd, Nat.reduceSub, Nat.reduceLeDiff, Nat.reduceLT, Nat.reduceMul, reduceCtorEq, Int.reduceBNe, Int.reduceBEq, Int.reduceLT, Int.reduceLE, Int.reduceGT, h, hk, hd, he]
  · rw [ho] at h
    by_cases he : e = 0
    · subst he
      by_cases h1 : b < 1
      · have hk : okVer b 0 v = false := by simp [okVer, ho]; omega
        simp +contextual -implicitDefEqProofs (maxSteps := 2000000) only [↓wP, wQ, wQ1, wQ2, wQ3, wR, boxE, partsOf, ↓reduceIte, Nat.reduceEqDiff, Nat.reduceAdd, Nat.reduceSub, Nat.reduceLeDiff, Nat.reduceLT, Nat.reduceMul, reduceCtorEq, Int.reduceBNe, Int.reduceBEq, Int.reduceLT, Int.reduceLE, Int.reduceGT, h, hk, h1]
      · by_cases h2 : 1099511627776 < b
        · have hk : okVer b 0 v = false := by simp [okVer, ho]; omega
          simp +contextual -implicitDefEqProofs (maxSteps := 2000000) only [↓wP, wQ, wQ1, wQ2, wQ3, wR, boxE, partsOf, ↓reduceIte, Nat.reduceEqDiff, Nat.reduceAdd, Nat.reduceSub, Nat.reduceLeDiff, Nat.reduceLT, Nat.reduceMul, reduceCtorEq, Int.reduceBNe, Int.reduceBEq, Int.reduceLT, Int.reduceLE, Int.reduceGT, h, hk, h1, h2]
        · have hk : okVer b 0 v = true := by simp [okVer, ho]; omega
          simp +contextual -implicitDefEqProofs (maxSteps := 2000000) only [↓wP, wQ, wQ1, wQ2, wQ3, wR, boxE, partsOf, ↓reduceIte, Nat.reduceEqDiff, Nat.reduceAdd, Nat.reduceSub, Nat.reduceLeDiff, Nat.reduceLT, Nat.reduceMul, reduceCtorEq, Int.reduceBNe, Int.reduceBEq, Int.reduceLT, Int.reduceLE, Int.reduceGT, h, hk, h1, h2]
    · have hd : (e == 0) = false := by simpa using he
      by_cases h1 : b < 1
      · have hk : okVer b e v = false := by simp [okVer, ho]; omega
        simp +contextual -implicitDefEqProofs (maxSteps := 2000000) only [↓wP, wQ, wQ1, wQ2, wQ3, wR, boxE, partsOf, ↓reduceIte, Nat.reduceEqDiff, Nat.reduceAdd, Nat.reduceSub, Nat.reduceLeDiff, Nat.reduceLT, Nat.reduceMul, reduceCtorEq, Int.reduceBNe, Int.reduceBEq, Int.reduceLT, Int.reduceLE, Int.reduceGT, h, hk, h1, hd, he]
      · by_cases h2 : 1099511627776 < b
        · have hk : okVer b e v = false := by simp [okVer, ho]; omega
          simp +contextual -implicitDefEqProofs (maxSteps := 2000000) only [↓wP, wQ, wQ1, wQ2, wQ3, wR, boxE, partsOf, ↓reduceIte, Nat.reduceEqDiff, Nat.reduceAdd, Nat.reduceSub, Nat.reduceLeDiff, Nat.reduceLT, Nat.reduceMul, reduceCtorEq, Int.reduceBNe, Int.reduceBEq, Int.reduceLT, Int.reduceLE, Int.reduceGT, h, hk, h1, h2, hd, he]
        · by_cases h3 : b < e
          · by_cases h4 : e ≤ 1099511627776
            · have hk : okVer b e v = true := by simp [okVer, ho]; omega
              simp +contextual -implicitDefEqProofs (maxSteps := 2000000) only [↓wP, wQ, wQ1, wQ2, wQ3, wR, boxE, partsOf, ↓reduceIte, Nat.reduceEqDiff, Nat.reduceAdd, Nat.reduceSub, Nat.reduceLeDiff, Nat.reduceLT, Nat.reduceMul, reduceCtorEq, Int.reduceBNe, Int.reduceBEq, Int.reduceLT, Int.reduceLE, Int.reduceGT, h, hk, h1, h2, h3, h4, hd, he]
            · have hk : okVer b e v = false := by simp [okVer, ho]; omega
              simp +contextual -implicitDefEqProofs (maxSteps := 2000000) only [↓wP, wQ, wQ1, wQ2, wQ3, wR, boxE, partsOf, ↓reduceIte, Nat.reduceEqDiff, Nat.reduceAdd, Nat.reduceSub, Nat.reduceLeDiff, Nat.reduceLT, Nat.reduceMul, reduceCtorEq, Int.reduceBNe, Int.reduceBEq, Int.reduceLT, Int.reduceLE, Int.reduceGT, h, hk, h1, h2, h3, h4, hd, he]
          · have hk : okVer b e v = false := by simp [okVer, ho]; omega
            simp +contextual -implicitDefEqProofs (maxSteps := 2000000) only [↓wP, wQ, wQ1, wQ2, wQ3, wR, boxE, partsOf, ↓reduceIte, Nat.reduceEqDiff, Nat.reduceAdd, Nat.reduceSub, Nat.reduceLeDiff, Nat.reduceLT, Nat.reduceMul, reduceCtorEq, Int.reduceBNe, Int.reduceBEq, Int.reduceLT, Int.reduceLE, Int.reduceGT, h, hk, h1, h2, h3, hd, he]

theorem f78 (b e : Int) (v : Option (List Int)) (hv : (lst v).length < 9223372036854775808) (fs : Bool) (σ : Sto) (n lk : Nat) : callE T fs 78 [.agg [.int .u64 b, .int .u64 e, slV 1 i32V v]] σ n lk = some (.int .i64 (if okVer b e v then 0 else 171), σ, n) :=
  callE_tr (by decide) (r78 b e v hv) (by simp [Tr, Tr_slV]) rfl fs σ n lk

theorem r63 (b e : Int) (v : Option (List Int)) (hv : (lst v).length < 9223372036854775808) : res T 63 [.agg [.int .u64 b, .int .u64 e, slV 1 i32V v]] = some (.bool (okVer b e v)) := by
  refine run_res (run_pure (fn := g63) rfl rfl (by decide) ?_)
  simp only [g63, b63]
  have h := f22 v hv
  by_cases h1 : b < 1
  · have hk : okVer b e v = false := by simp [okVer]; omega
    simp +contextual -implicitDefEqProofs (maxSteps := 2000000) only [↓wP, wQ, wQ1, wQ2, wQ3, wR, boxE, partsOf, ↓reduceIte, Nat.reduceEqDiff, Nat.reduceAdd, Nat.reduceSub, Nat.reduceLeDiff, Nat.reduceLT, Nat.reduceMul, reduceCtorEq, Int.reduceBNe, Int.reduceBEq, Int.reduceLT, Int.reduceLE, Int.reduceGT, h, hk, h1]
  · by_cases h2 : 1099511627776 < b
    · have hk : okVer b e v = false := by simp [okVer]; omega
      simp +contextual -implicitDefEqProofs (maxSteps := 2000000) only [↓wP, wQ, wQ1, wQ2, wQ3, wR, boxE, partsOf, ↓reduceIte, Nat.reduceEqDiff, Nat.reduceAdd, Nat.reduceSub, Nat.reduceLeDiff, Nat.reduceLT, Nat.reduceMul, reduceCtorEq, Int.reduceBNe, Int.reduceBEq, Int.reduceLT, Int.reduceLE, Int.reduceGT, h, hk, h1, h2]
    · by_cases h4 : 1099511627776 < e
      · have hk : okVer b e v = false := by simp [okVer]; omega
        simp +contextual -implicitDefEqProofs (maxSteps := 2000000) only [↓wP, wQ, wQ1, wQ2, wQ3, wR, boxE, partsOf, ↓reduceIte, Nat.reduceEqDiff, Nat.reduceAdd, Nat.reduceSub, Nat.reduceLeDiff, Nat.reduceLT, Nat.reduceMul, reduceCtorEq, Int.reduceBNe, Int.reduceBEq, Int.reduceLT, Int.reduceLE, Int.reduceGT, h, hk, h1, h2, h4]
      · by_cases he : e = 0
        · subst he
          have hk : okVer b 0 v = okV v := by simp [okVer]; omega
          simp +contextual -implicitDefEqProofs (maxSteps := 2000000) only [↓wP, wQ, wQ1, wQ2, wQ3, wR, boxE, partsOf, ↓reduceIte, Nat.reduceEqDiff, Nat.reduceAdd, Nat.reduceSub, Nat.reduceLeDiff, Nat.reduceLT, Nat.reduceMul, reduceCtorEq, Int.reduceBNe, Int.reduceBEq, Int.reduceLT, Int.reduceLE, Int.reduceGT, h, hk, h1, h2, h4]
        · have hd : (e == 0) = false := by simpa using he
          have hd' : (e != 0) = true := by simpa using he
          by_cases h3 : e ≤ b
          · have hk : okVer b e v = false := by simp [okVer]; omega
            simp +contextual -implicitDefEqProofs (maxSteps := 2000000) only [↓wP, wQ, wQ1, wQ2, wQ3, wR, boxE, partsOf, ↓reduceIte, Nat.reduceEqDiff, Nat.reduceAdd, Nat.reduceSub, Nat.reduceLeDiff, Nat.reduceLT, Nat.reduceMul, reduceCtorEq, Int.reduceBNe, Int.reduceBEq, Int.reduceLT, Int.reduceLE, Int.reduceGT, h, hk, h1, h2, h3, h4, hd, hd', he]
          · have hk : okVer b e v = okV v := by simp [okVer, hd]; omega
            simp +contextual -implicitDefEqProofs (maxSteps := 2000000) only [↓wP, wQ, wQ1, wQ2, wQ3, wR, boxE, partsOf, ↓reduceIte, Nat.reduceEqDiff, Nat.reduceAdd, Nat.reduceSub, Nat.reduceLeDiff, Nat.reduceLT, Nat.reduceMul, reduceCtorEq, Int.reduceBNe, Int.reduceBEq, Int.reduceLT, Int.reduceLE, Int.reduceGT, h, hk, h1, h2, h3, h4, hd, hd', he]

theorem f63 (b e : Int) (v : Option (List Int)) (hv : (lst v).length < 9223372036854775808) (fs : Bool) (σ : Sto) (n lk : Nat) : callE T fs 63 [.agg [.int .u64 b, .int .u64 e, slV 1 i32V v]] σ n lk = some (.bool (okVer b e v), σ, n) :=
  callE_tr (by decide) (r63 b e v hv) (by simp [Tr, Tr_slV]) rfl fs σ n lk
end Go.Q.S11
end

section
/- Arenas that may be. -/
set_option linter.unusedSimpArgs false
set_option linter.unusedVariables false
namespace Go.Q.S11
open Go.Q

theorem eqc_two (a b c d : Int) : eqCells [.int, .int] [.int .u64 a, .int .u64 b] [.int .u64 c, .int .u64 d] = some (a == c && b == d) := by
  simp [eqCells, eqCell]

theorem r77 (b e : Int) (v : Option (List Int)) (b' e' : Int) (v' : Option (List Int)) (hv : (lst v).length < 9223372036854775808) : res T 77 [.agg [.int .u64 b, .int .u64 e, slV 1 i32V v], .agg [.int .u64 b', .int .u64 e', slV 1 i32V v']] = some (.bool (b == b' && e == e' && lst v == lst v')) := by
  refine run_res (run_pure (fn := g77) rfl rfl (by decide) ?_)
  simp only [g77, b77]
  have h := f92 v v' hv
  cases hb : (b == b' && e == e')
  · simp +contextual -implicitDefEqProofs (maxSteps := 2000000) only [↓wP, wQ, wQ1, wQ2, wQ3, wR, boxE, partsOf, ↓reduceIte, Nat.reduceEqDiff, Nat.reduceAdd, Nat.reduceSub, Nat.reduceLeDiff, Nat.reduceLT, Nat.reduceMul, reduceCtorEq, Int.reduceBNe, Int.reduceBEq, Int.reduceLT, Int.reduceLE, Int.reduceGT, h, eqc_two, hb, Bool.bne_false]
  · simp +contextual -implicitDefEqProofs (maxSteps := 2000000) only [↓wP, wQ, wQ1, wQ2, wQ3, wR, boxE, partsOf, ↓reduceIte, Nat.reduceEqDiff, Nat.reduceAdd, Nat.reduceSub, Nat.reduceLeDiff, Nat.reduceLT, Nat.reduceMul, reduceCtorEq, Int.reduceBNe, Int.reduceBEq, Int.reduceLT, Int.reduceLE, Int.reduceGT, h, eqc_two, hb, Bool.bne_false]

theorem f77 (b e : Int) (v : Option (List Int)) (b' e' : Int) (v' : Option (List Int)) (hv : (lst v).length < 9223372036854775808) (fs : Bool) (σ : Sto) (n lk : Nat) : callE T fs 77 [.agg [.int .u64 b, .int .u64 e, slV 1 i32V v], .agg [.int .u64 b', .int .u64 e', slV 1 i32V v']] σ n lk = some (.bool (b == b' && e == e' && lst v == lst v'), σ, n) :=
  callE_tr (by decide) (r77 b e v b' e' v' hv) (by simp [Tr, Tr_slV]) rfl fs σ n lk

theorem slV_nil' {α : Type} (sz : Nat) (f : α → V) : V.nilS = slV sz f none := rfl

theorem r51 (u : Bool) (id b e : Int) (v : Option (List Int)) (hv : (lst v).length < 9223372036854775808) : res T 51 [.agg [.bool u, .int .u64 id, .int .u64 b, .int .u64 e, slV 1 i32V v]] = some (.bool (okCel ⟨u, id, b, e, v⟩)) := by
  refine run_res (run_pure (fn := g51) rfl rfl (by decide) ?_)
  simp only [g51, b51]
  have h := f78 b e v hv
  have h2 := f77 b e v 0 0 none hv
  simp only [slV_none] at h2
  cases u
  · by_cases hi : id = 0
    · subst hi
      have hk : okCel ⟨false, 0, b, e, v⟩ = (b == 0 && e == 0 && lst v == lst (none : Option (List Int))) := by
        simp only [okCel, Bool.false_eq_true, if_false, lst_none]
        have : ((lst v) == []) = decide ((lst v).length = 0) := by cases lst v <;> simp
        rw [this]; simp
      simp +contextual -implicitDefEqProofs (maxSteps := 2000000) only [↓wP, wQ, wQ1, wQ2, wQ3, wR, boxE, partsOf, ↓reduceIte, Nat.reduceEqDiff, Nat.reduceAdd, Nat.reduceSub, Nat.reduceLeDiff, Nat.reduceLT, Nat.reduceMul, reduceCtorEq, Int.reduceBNe, Int.reduceBEq, Int.reduceLT, Int.reduceLE, Int.reduceGT, h2, hk]
    · have hk : okCel ⟨false, id, b, e, v⟩ = false := by simp [okCel, hi]
      have hd : (id == 0) = false := by simpa using hi
      simp +contextual -implicitDefEqProofs (maxSteps := 2000000) only [↓wP, wQ, wQ1, wQ2, wQ3, wR, boxE, partsOf, ↓reduceIte, Nat.reduceEqDiff, Nat.reduceAdd, Nat.reduceSub, Nat.reduceLeDiff, Nat.reduceLT, Nat.reduceMul, reduceCtorEq, Int.reduceBNe, Int.reduceBEq, Int.reduceLT, Int.reduceLE, Int.reduceGT, h2, hk, hi, hd]
  · have hk : okCel ⟨true, id, b, e, v⟩ = okVer b e v := by simp [okCel]
    cases ho : okVer b e v
    · rw [ho] at h
      simp +contextual -implicitDefEqProofs (maxSteps := 2000000) only [↓wP, wQ, wQ1, wQ2, wQ3, wR, boxE, partsOf, ↓reduceIte, Nat.reduceEqDiff, Nat.reduceAdd, Nat.reduceSub, Nat.reduceLeDiff, Nat.reduceLT, Nat.reduceMul, reduceCtorEq, Int.reduceBNe, Int.reduceBEq, Int.reduceLT, Int.reduceLE, Int.reduceGT, h, hk, ho]
    · rw [ho] at h
      simp +contextual -implicitDefEqProofs (maxSteps := 2000000) only [↓wP, wQ, wQ1, wQ2, wQ3, wR, boxE, partsOf, ↓reduceIte, Nat.reduceEqDiff, Nat.reduceAdd, Nat.reduceSub, Nat.reduceLeDiff, Nat.reduceLT, Nat.reduceMul, reduceCtorEq, Int.reduceBNe, Int.reduceBEq, Int.reduceLT, Int.reduceLE, Int.reduceGT, h, hk, ho]

theorem f51 (u : Bool) (id b e : Int) (v : Option (List Int)) (hv : (lst v).length < 9223372036854775808) (fs : Bool) (σ : Sto) (n lk : Nat) : callE T fs 51 [.agg [.bool u, .int .u64 id, .int .u64 b, .int .u64 e, slV 1 i32V v]] σ n lk = some (.bool (okCel ⟨u, id, b, e, v⟩), σ, n) :=
  callE_tr (by decide) (r51 u id b e v hv) (by simp [Tr, Tr_slV]) rfl fs σ n lk

theorem r39 (u : Bool) (id b e : Int) (v : Option (List Int)) (hv : (lst v).length < 9223372036854775808) : res T 39 [.agg [.bool u, .int .u64 id, .int .u64 b, .int .u64 e, slV 1 i32V v]] = some (.bool (okCel ⟨u, id, b, e, v⟩)) := by
  refine run_res (run_pure (fn := g39) rfl rfl (by decide) ?_)
  simp only [g39, b39]
  have h := f63 b e v hv
  cases u
  · by_cases hi : id = 0
    · subst hi
      by_cases hb : b = 0
      · subst hb
        by_cases he : e = 0
        · subst he
          by_cases hl : (lst v).length = 0
          · have hk : okCel ⟨false, 0, 0, 0, v⟩ = true := by simp [okCel, hl]
            have hd : (((lst v).length : Int) == 0) = true := by simp [hl]
            simp +contextual -implicitDefEqProofs (maxSteps := 2000000) only [↓wP, wQ, wQ1, wQ2, wQ3, wR, boxE, partsOf, ↓reduceIte, Nat.reduceEqDiff, Nat.reduceAdd, Nat.reduceSub, Nat.reduceLeDiff, Nat.reduceLT, Nat.reduceMul, reduceCtorEq, Int.reduceBNe, Int.reduceBEq, Int.reduceLT, Int.reduceLE, Int.reduceGT, hk, hd]
          · have hk : okCel ⟨false, 0, 0, 0, v⟩ = false := by simp [okCel, hl]
            have hd : (((lst v).length : Int) == 0) = false := by simp [hl]
            simp +contextual -implicitDefEqProofs (maxSteps := 2000000) only [↓wP, wQ, wQ1, wQ2, wQ3, wR, boxE, partsOf, ↓reduceIte, Nat.reduceEqDiff, Nat.reduceAdd, Nat.reduceSub, Nat.reduceLeDiff, Nat.reduceLT, Nat.reduceMul, reduceCtorEq, Int.reduceBNe, Int.reduceBEq, Int.reduceLT, Int.reduceLE, Int.reduceGT, hk, hd]
        · have hk : okCel ⟨false, 0, 0, e, v⟩ = false := by simp [okCel, he]
          have hd : (e == 0) = false := by simpa using he
          simp +contextual -implicitDefEqProofs (maxSteps := 2000000) only [↓wP, wQ, wQ1, wQ2, wQ3, wR, boxE, partsOf, ↓reduceIte, Nat.reduceEqDiff, Nat.reduceAdd, Nat.reduceSub, Nat.reduceLeDiff, Nat.reduceLT, Nat.reduceMul, reduceCtorEq, Int.reduceBNe, Int.reduceBEq, Int.reduceLT, Int.reduceLE, Int.reduceGT, hk, hd, he]
      · have hk : okCel ⟨false, 0, b, e, v⟩ = false := by simp [okCel, hb]
        have hd : (b == 0) = false := by simpa using hb
        simp +contextual -implicitDefEqProofs (maxSteps := 2000000) only [↓wP, wQ, wQ1, wQ2, wQ3, wR, boxE, partsOf, ↓reduceIte, Nat.reduceEqDiff, Nat.reduceAdd, Nat.reduceSub, Nat.reduceLeDiff, Nat.reduceLT, Nat.reduceMul, reduceCtorEq, Int.reduceBNe, Int.reduceBEq, Int.reduceLT, Int.reduceLE, Int.reduceGT, hk, hd, hb]
    · have hk : okCel ⟨false, id, b, e, v⟩ = false := by simp [okCel, hi]
      have hd : (id == 0) = false := by simpa using hi
      simp +contextual -implicitDefEqProofs (maxSteps := 2000000) only [↓wP, wQ, wQ1, wQ2, wQ3, wR, boxE, partsOf, ↓reduceIte, Nat.reduceEqDiff, Nat.reduceAdd, Nat.reduceSub, Nat.reduceLeDiff, Nat.reduceLT, Nat.reduceMul, reduceCtorEq, Int.reduceBNe, Int.reduceBEq, Int.reduceLT, Int.reduceLE, Int.reduceGT, hk, hi, hd]
  · have hk : okCel ⟨true, id, b, e, v⟩ = okVer b e v := by simp [okCel]
    simp +contextual -implicitDefEqProofs (maxSteps := 2000000) only [↓wP, wQ, wQ1, wQ2, wQ3, wR, boxE, partsOf, ↓reduceIte, Nat.reduceEqDiff, Nat.reduceAdd, Nat.reduceSub, Nat.reduceLeDiff, Nat.reduceLT, Nat.reduceMul, reduceCtorEq, Int.reduceBNe, Int.reduceBEq, Int.reduceLT, Int.reduceLE, Int.reduceGT, h, hk]

theorem f39 (u : Bool) (id b e : Int) (v : Option (List Int)) (hv : (lst v).length < 9223372036854775808) (fs : Bool) (σ : Sto) (n lk : Nat) : callE T fs 39 [.agg [.bool u, .int .u64 id, .int .u64 b, .int .u64 e, slV 1 i32V v]] σ n lk = some (.bool (okCel ⟨u, id, b, e, v⟩), σ, n) :=
  callE_tr (by decide) (r39 u id b e v hv) (by simp [Tr, Tr_slV]) rfl fs σ n lk

theorem r54 (u : Bool) (id b e : Int) (v : Option (List Int)) (hv : (lst v).length < 9223372036854775808) : res T 54 [.agg [.bool u, .int .u64 id, .int .u64 b, .int .u64 e, slV 1 i32V v]] = some (.bool (!okCel ⟨u, id, b, e, v⟩)) := by
  refine run_res (run_pure (fn := g54) rfl rfl (by decide) ?_)
  simp only [g54, b54]
  have h := f51 u id b e v hv
  simp +contextual -implicitDefEqProofs (maxSteps := 2000000) only [↓wP, wQ, wQ1, wQ2, wQ3, wR, boxE, partsOf, ↓reduceIte, Nat.reduceEqDiff, Nat.reduceAdd, Nat.reduceSub, Nat.reduceLeDiff, Nat.reduceLT, Nat.reduceMul, reduceCtorEq, Int.reduceBNe, Int.reduceBEq, Int.reduceLT, Int.reduceLE, Int.reduceGT, h]

theorem f54 (u : Bool) (id b e : Int) (v : Option (List Int)) (hv : (lst v).length < 9223372036854775808) (fs : Bool) (σ : Sto) (n lk : Nat) : callE T fs 54 [.agg [.bool u, .int .u64 id, .int .u64 b, .int .u64 e, slV 1 i32V v]] σ n lk = some (.bool (!okCel ⟨u, id, b, e, v⟩), σ, n) :=
  callE_tr (by decide) (r54 u id b e v hv) (by simp [Tr, Tr_slV]) rfl fs σ n lk

theorem celV_eq (c : Cel) : celV c = .agg [.bool c.u, .int .u64 c.id, .int .u64 c.b, .int .u64 c.e, slV 1 i32V c.v] := rfl

theorem r79 (o : Option (List Cel)) (ho : SmA o) : res T 79 [slV 5 celV o, .fn 54 []] = some (.int .i64 (idxF (fun c => !okCel c) (lst o))) := by
  refine run_res (run_pure (fn := g79) rfl rfl (by decide) ?_)
  simp only [g79, b79]
  obtain ⟨hl, hs⟩ := ho
  simp +contextual -implicitDefEqProofs (maxSteps := 2000000) only [↓wP, wQ, wQ1, wQ2, wQ3, wR, boxE, partsOf, ↓reduceIte, Nat.reduceEqDiff, Nat.reduceAdd, Nat.reduceSub, Nat.reduceLeDiff, Nat.reduceLT, Nat.reduceMul, reduceCtorEq, Int.reduceBNe, Int.reduceBEq, Int.reduceLT, Int.reduceLE, Int.reduceGT]
  refine WC_for (lst o).length 0 (fun (j : Nat) env _ _ => env 0 = slV 5 celV o ∧ env 1 = .fn 54 [] ∧ (lst o).findIdx? (fun c => !okCel c) = (((lst o).drop j).findIdx? (fun c => !okCel c)).map (· + j)) (by omega) (by decide) (by decide) (fun _ _ => rfl) (fun _ _ _ => rfl) ?_ ?_ _ _ _ rfl rfl ?_
  · intro j env σ n hj h1 h2 ⟨h3, h4, h5⟩
    simp only [vl_tmp] at h2
    have hx : (lst o)[j]? = some (lst o)[j] := List.getElem?_eq_getElem hj
    have hv := hs _ (List.getElem_mem hj)
    rw [List.drop_eq_getElem_cons hj, List.findIdx?_cons] at h5
    generalize (lst o)[j] = c at *
    have hp' := f54 c.u c.id c.b c.e c.v hv
    simp +contextual -implicitDefEqProofs (maxSteps := 2000000) only [↓wP, wQ, wQ1, wQ2, wQ3, wR, boxE, partsOf, ↓reduceIte, Nat.reduceEqDiff, Nat.reduceAdd, Nat.reduceSub, Nat.reduceLeDiff, Nat.reduceLT, Nat.reduceMul, reduceCtorEq, Int.reduceBNe, Int.reduceBEq, Int.reduceLT, Int.reduceLE, Int.reduceGT, h1, h2, h3, h4, hx, celV_eq, hp']
    cases hb : okCel c
    · have h5' : List.findIdx? (fun c => !okCel c) (lst o) = some j := by simpa [hb] using h5
      simp +contextual -implicitDefEqProofs (maxSteps := 2000000) only [↓wP, wQ, wQ1, wQ2, wQ3, wR, boxE, partsOf, ↓reduceIte, Nat.reduceEqDiff, Nat.reduceAdd, Nat.reduceSub, Nat.reduceLeDiff, Nat.reduceLT, Nat.reduceMul, reduceCtorEq, Int.reduceBNe, Int.reduceBEq, Int.reduceLT, Int.reduceLE, Int.reduceGT, hb]
      simp [idxF, h5']
    · have h5' : List.findIdx? (fun c => !okCel c) (lst o) = (((lst o).drop (j + 1)).findIdx? (fun c => !okCel c)).map (· + (j + 1)) := by
        rw [h5, hb]
        simp only [Bool.not_true, Bool.false_eq_true, if_false, Option.map_map, Function.comp_def]
        congr 1; funext i; omega
      simp +contextual -implicitDefEqProofs (maxSteps := 2000000) only [↓wP, wQ, wQ1, wQ2, wQ3, wR, boxE, partsOf, ↓reduceIte, Nat.reduceEqDiff, Nat.reduceAdd, Nat.reduceSub, Nat.reduceLeDiff, Nat.reduceLT, Nat.reduceMul, reduceCtorEq, Int.reduceBNe, Int.reduceBEq, Int.reduceLT, Int.reduceLE, Int.reduceGT, h1, h2, h3, h4, hb]
      exact h5'
  · intro env σ n ⟨h3, h4, h5⟩ h1 h2
    simp +contextual -implicitDefEqProofs (maxSteps := 2000000) only [↓wP, wQ, wQ1, wQ2, wQ3, wR, boxE, partsOf, ↓reduceIte, Nat.reduceEqDiff, Nat.reduceAdd, Nat.reduceSub, Nat.reduceLeDiff, Nat.reduceLT, Nat.reduceMul, reduceCtorEq, Int.reduceBNe, Int.reduceBEq, Int.reduceLT, Int.reduceLE, Int.reduceGT]
    simp [idxF, h5]
  · exact ⟨rfl, rfl, by simp⟩

theorem f79 (o : Option (List Cel)) (ho : SmA o) (fs : Bool) (σ : Sto) (n lk : Nat) : callE T fs 79 [slV 5 celV o, .fn 54 []] σ n lk = some (.int .i64 (idxF (fun c => !okCel c) (lst o)), σ, n) :=
  callE_tr (by decide) (r79 o ho) (by simp [Tr, Tr_slV]) rfl fs σ n lk

theorem r55 (o : Option (List Cel)) (ho : SmA o) : res T 55 [slV 5 celV o, .fn 54 []] = some (.bool ((lst o).any fun c => !okCel c)) := by
  refine run_res (run_pure (fn := g55) rfl rfl (by decide) ?_)
  simp only [g55, b55]
  have h := f79 o ho
  simp +contextual -implicitDefEqProofs (maxSteps := 2000000) only [↓wP, wQ, wQ1, wQ2, wQ3, wR, boxE, partsOf, ↓reduceIte, Nat.reduceEqDiff, Nat.reduceAdd, Nat.reduceSub, Nat.reduceLeDiff, Nat.reduceLT, Nat.reduceMul, reduceCtorEq, Int.reduceBNe, Int.reduceBEq, Int.reduceLT, Int.reduceLE, Int.reduceGT, h, idxF_any]

theorem f55 (o : Option (List Cel)) (ho : SmA o) (fs : Bool) (σ : Sto) (n lk : Nat) : callE T fs 55 [slV 5 celV o, .fn 54 []] σ n lk = some (.bool ((lst o).any fun c => !okCel c), σ, n) :=
  callE_tr (by decide) (r55 o ho) (by simp [Tr, Tr_slV]) rfl fs σ n lk

def arE (a : Option (List Cel)) : Int := if okA a then 0 else 190
theorem r31 (a : Option (List Cel)) (ha : SmA a) : res T 31 [.agg [slV 5 celV a]] = some (.int .i64 (arE a)) := by
  refine run_res (run_pure (fn := g31) rfl rfl (by decide) ?_)
  simp only [g31, b31]
  have h := f55 a ha
  by_cases hl : (lst a).length = 96
  · have hd : (((lst a).length : Int) != 96) = false := by simp [hl]
    have hk : (lst a).any (fun c => !okCel c) = !okA a := by
      simp only [okA, hl, decide_true, Bool.true_and, List.not_all_eq_any_not]
    cases ho : okA a
    · rw [hk, ho] at h
      simp +contextual -implicitDefEqProofs (maxSteps := 2000000) only [↓wP, wQ, wQ1, wQ2, wQ3, wR, boxE, partsOf, ↓reduceIte, Nat.reduceEqDiff, Nat.reduceAdd, Nat.reduceSub, Nat.reduceLeDiff, Nat.reduceLT, Nat.reduceMul, reduceCtorEq, Int.reduceBNe, Int.reduceBEq, Int.reduceLT, Int.reduceLE, Int.reduceGT, h, hd, arE, ho]
    · rw [hk, ho] at h
      simp +contextual -implicitDefEqProofs (maxSteps := 2000000) only [↓wP, wQ, wQ1, wQ2, wQ3, wR, boxE, partsOf, ↓reduceIte, Nat.reduceEqDiff, Nat.reduceAdd, Nat.reduceSub, Nat.reduceLeDiff, Nat.reduceLT, Nat.reduceMul, reduceCtorEq, Int.reduceBNe, Int.reduceBEq, Int.reduceLT, Int.reduceLE, Int.reduceGT, h, hd, arE, ho]
  · have hd : (((lst a).length : Int) != 96) = true := by simp; omega
    have ho : okA a = false := by simp [okA, hl]
    simp +contextual -implicitDefEqProofs (maxSteps := 2000000) only [↓wP, wQ, wQ1, wQ2, wQ3, wR, boxE, partsOf, ↓reduceIte, Nat.reduceEqDiff, Nat.reduceAdd, Nat.reduceSub, Nat.reduceLeDiff, Nat.reduceLT, Nat.reduceMul, reduceCtorEq, Int.reduceBNe, Int.reduceBEq, Int.reduceLT, Int.reduceLE, Int.reduceGT, h, hd, arE, ho]

theorem f31 (a : Option (List Cel)) (ha : SmA a) (fs : Bool) (σ : Sto) (n lk : Nat) : callE T fs 31 [.agg [slV 5 celV a]] σ n lk = some (.int .i64 (arE a), σ, n) :=
  callE_tr (by decide) (r31 a ha) (by simp [Tr, Tr_slV]) rfl fs σ n lk

theorem r14 (a : Option (List Cel)) (ha : SmA a) : res T 14 [.agg [slV 5 celV a]] = some (.bool (okA a)) := by
  refine run_res (run_pure (fn := g14) rfl rfl (by decide) ?_)
  simp only [g14, b14]
  simp +contextual -implicitDefEqProofs (maxSteps := 2000000) only [↓wP, wQ, wQ1, wQ2, wQ3, wR, boxE, partsOf, ↓reduceIte, Nat.reduceEqDiff, Nat.reduceAdd, Nat.reduceSub, Nat.reduceLeDiff, Nat.reduceLT, Nat.reduceMul, reduceCtorEq, Int.reduceBNe, Int.reduceBEq, Int.reduceLT, Int.reduceLE, Int.reduceGT]
  refine WC_loopI 0 (fun (j : Nat) env σ n => j ≤ (lst a).length ∧ env 3 = .int .i64 (j : Int) ∧ env 1 = .ptr 0 1 0 0 ∧ σ 0 = some (.row 1 [.agg [slV 5 celV a]]) ∧ (lst a).all okCel = ((lst a).drop j).all okCel)
    (fun j => (lst a).length - j) ?_ 0 _ _ _ ?_
  · intro j env σ n ⟨h0, h1, h2, h3, h4⟩
    by_cases hj : j < (lst a).length
    · have hd : decide ((j : Int) < ((lst a).length : Int)) = true := by simp [hj]
      have hw : IntKind.i64.wrap ((j : Int) + 1) = ((j + 1 : Nat) : Int) := by have := ha.1; rw [wrap_i64] <;> omega
      have hx : (lst a)[j]? = some (lst a)[j] := List.getElem?_eq_getElem hj
      have hv := ha.2 _ (List.getElem_mem hj)
      rw [List.drop_eq_getElem_cons hj, List.all_cons] at h4
      generalize (lst a)[j] = c at *
      have hp := f39 c.u c.id c.b c.e c.v hv
      cases hb : okCel c
      · rw [hb] at hp h4
        have hk : okA a = false := by simp [okA, h4]
        simp +contextual -implicitDefEqProofs (maxSteps := 2000000) only [↓wP, wQ, wQ1, wQ2, wQ3, wR, boxE, partsOf, ↓reduceIte, Nat.reduceEqDiff, Nat.reduceAdd, Nat.reduceSub, Nat.reduceLeDiff, Nat.reduceLT, Nat.reduceMul, reduceCtorEq, Int.reduceBNe, Int.reduceBEq, Int.reduceLT, Int.reduceLE, Int.reduceGT, h1, h2, h3, hd, hx, celV_eq, hp, hk]
      · rw [hb] at hp h4
        simp +contextual -implicitDefEqProofs (maxSteps := 2000000) only [↓wP, wQ, wQ1, wQ2, wQ3, wR, boxE, partsOf, ↓reduceIte, Nat.reduceEqDiff, Nat.reduceAdd, Nat.reduceSub, Nat.reduceLeDiff, Nat.reduceLT, Nat.reduceMul, reduceCtorEq, Int.reduceBNe, Int.reduceBEq, Int.reduceLT, Int.reduceLE, Int.reduceGT, h1, h2, h3, hd, hx, celV_eq, hp, hw]
        exact ⟨j + 1, by omega, by omega, rfl, by simpa using h4⟩
    · have hd : decide ((j : Int) < ((lst a).length : Int)) = false := by simp; omega
      have e1 : (lst a).drop j = [] := by rw [List.drop_eq_nil_iff]; omega
      rw [e1] at h4
      have hk : okA a = (((lst a).length : Int) == 96) := by
        simp only [okA, h4, List.all_nil, Bool.and_true]
        by_cases hl : (lst a).length = 96
        · simp [hl]
        · simp [hl]; omega
      simp +contextual -implicitDefEqProofs (maxSteps := 2000000) only [↓wP, wQ, wQ1, wQ2, wQ3, wR, boxE, partsOf, ↓reduceIte, Nat.reduceEqDiff, Nat.reduceAdd, Nat.reduceSub, Nat.reduceLeDiff, Nat.reduceLT, Nat.reduceMul, reduceCtorEq, Int.reduceBNe, Int.reduceBEq, Int.reduceLT, Int.reduceLE, Int.reduceGT, h1, h2, h3, hd, hk]
  · simp +contextual -implicitDefEqProofs (maxSteps := 2000000) only [↓wP, wQ, wQ1, wQ2, wQ3, wR, boxE, partsOf, ↓reduceIte, Nat.reduceEqDiff, Nat.reduceAdd, Nat.reduceSub, Nat.reduceLeDiff, Nat.reduceLT, Nat.reduceMul, reduceCtorEq, Int.reduceBNe, Int.reduceBEq, Int.reduceLT, Int.reduceLE, Int.reduceGT]
    simp

theorem f14 (a : Option (List Cel)) (ha : SmA a) (fs : Bool) (σ : Sto) (n lk : Nat) : callE T fs 14 [.agg [slV 5 celV a]] σ n lk = some (.bool (okA a), σ, n) :=
  callE_tr (by decide) (r14 a ha) (by simp [Tr, Tr_slV]) rfl fs σ n lk

def overA (a : Option (List Cel)) : Bool := decide (120 < (lst a).length) || (lst a).any fun c => decide (50 < (lst c.v).length)
theorem r10 (a : Option (List Cel)) (ha : SmA a) : res T 10 [.agg [slV 5 celV a]] = some (.bool (overA a)) := by
  refine run_res (run_pure (fn := g10) rfl rfl (by decide) ?_)
  simp only [g10, b10]
  by_cases hl : 120 < (lst a).length
  · have hd : (120 : Int) < ((lst a).length : Int) := by omega
    have hk : overA a = true := by simp [overA, hl]
    simp +contextual -implicitDefEqProofs (maxSteps := 2000000) only [↓wP, wQ, wQ1, wQ2, wQ3, wR, boxE, partsOf, ↓reduceIte, Nat.reduceEqDiff, Nat.reduceAdd, Nat.reduceSub, Nat.reduceLeDiff, Nat.reduceLT, Nat.reduceMul, reduceCtorEq, Int.reduceBNe, Int.reduceBEq, Int.reduceLT, Int.reduceLE, Int.reduceGT, hd, hk]
  · have hd : ¬ (120 : Int) < ((lst a).length : Int) := by omega
    simp +contextual -implicitDefEqProofs (maxSteps := 2000000) only [↓wP, wQ, wQ1, wQ2, wQ3, wR, boxE, partsOf, ↓reduceIte, Nat.reduceEqDiff, Nat.reduceAdd, Nat.reduceSub, Nat.reduceLeDiff, Nat.reduceLT, Nat.reduceMul, reduceCtorEq, Int.reduceBNe, Int.reduceBEq, Int.reduceLT, Int.reduceLE, Int.reduceGT, hd]
    refine WC_for (lst a).length 0 (fun (j : Nat) env σ n => 1 ≤ n ∧ env 10 = slV 5 celV a ∧ overA a = ((lst a).drop j).any fun c => decide (50 < (lst c.v).length)) (by omega) (by decide) (by decide) (fun _ _ => rfl) (fun _ _ _ => rfl) ?_ ?_ _ _ _ rfl rfl ?_
    · intro j env σ n hj h1 h2 ⟨h3, h4, h5⟩
      simp only [vl_tmp] at h2
      have hx : (lst a)[j]? = some (lst a)[j] := List.getElem?_eq_getElem hj
      rw [List.drop_eq_getElem_cons hj, List.any_cons] at h5
      generalize (lst a)[j] = c at *
      by_cases hb : 50 < (lst c.v).length
      · have hb' : (50 : Int) < ((lst c.v).length : Int) := by omega
        have hk : overA a = true := by rw [h5]; simp [hb]
        simp +contextual -implicitDefEqProofs (maxSteps := 2000000) only [↓wP, wQ, wQ1, wQ2, wQ3, wR, boxE, partsOf, ↓reduceIte, Nat.reduceEqDiff, Nat.reduceAdd, Nat.reduceSub, Nat.reduceLeDiff, Nat.reduceLT, Nat.reduceMul, reduceCtorEq, Int.reduceBNe, Int.reduceBEq, Int.reduceLT, Int.reduceLE, Int.reduceGT, h1, h2, h4, hx, celV_eq, hb', hk]
      · have hb' : ¬ (50 : Int) < ((lst c.v).length : Int) := by omega
        simp +contextual -implicitDefEqProofs (maxSteps := 2000000) only [↓wP, wQ, wQ1, wQ2, wQ3, wR, boxE, partsOf, ↓reduceIte, Nat.reduceEqDiff, Nat.reduceAdd, Nat.reduceSub, Nat.reduceLeDiff, Nat.reduceLT, Nat.reduceMul, reduceCtorEq, Int.reduceBNe, Int.reduceBEq, Int.reduceLT, Int.reduceLE, Int.reduceGT, h1, h2, h4, hx, celV_eq, hb']
        rw [h5]; simp [hb]
    · intro env σ n ⟨h3, h4, h5⟩ h1 h2
      have hk : overA a = false := by rw [h5]; simp
      simp +contextual -implicitDefEqProofs (maxSteps := 2000000) only [↓wP, wQ, wQ1, wQ2, wQ3, wR, boxE, partsOf, ↓reduceIte, Nat.reduceEqDiff, Nat.reduceAdd, Nat.reduceSub, Nat.reduceLeDiff, Nat.reduceLT, Nat.reduceMul, reduceCtorEq, Int.reduceBNe, Int.reduceBEq, Int.reduceLT, Int.reduceLE, Int.reduceGT, hk]
    · simp +contextual -implicitDefEqProofs (maxSteps := 2000000) only [↓wP, wQ, wQ1, wQ2, wQ3, wR, boxE, partsOf, ↓reduceIte, Nat.reduceEqDiff, Nat.reduceAdd, Nat.reduceSub, Nat.reduceLeDiff, Nat.reduceLT, Nat.reduceMul, reduceCtorEq, Int.reduceBNe, Int.reduceBEq, Int.reduceLT, Int.reduceLE, Int.reduceGT]
      simp [overA, hl]

theorem f10 (a : Option (List Cel)) (ha : SmA a) (fs : Bool) (σ : Sto) (n lk : Nat) : callE T fs 10 [.agg [slV 5 celV a]] σ n lk = some (.bool (overA a), σ, n) :=
  callE_tr (by decide) (r10 a ha) (by simp [Tr, Tr_slV]) rfl fs σ n lk
end Go.Q.S11
end

section
/- Masks. -/
set_option linter.unusedSimpArgs false
set_option linter.unusedVariables false
namespace Go.Q.S11
open Go.Q

theorem b_shr (m k : Nat) (hk : k < 64) : binV .shr (.int .u64 (m : Int)) (.int .i64 (k : Int)) = some (.int .u64 ((m / 2 ^ k : Nat) : Int)) := by
  have h0 : ¬ ((k : Int) < 0) := by omega
  have hm : min ((k : Int).toNat) IntKind.u64.bits = k := by
    show min (k : Int).toNat 64 = k
    omega
  have hf : (m : Int).fdiv (2 ^ k) = ((m / 2 ^ k : Nat) : Int) := by
    rw [Int.fdiv_eq_ediv_of_nonneg _ (by exact_mod_cast Nat.zero_le _)]
    norm_cast
  simp only [binV, pureV, Go.binOp, Op.shift, h0, if_false, hm, hf]
  rfl
theorem b_shl (k : Nat) (hk : k < 64) : binV .shl (.int .u64 1) (.int .i64 (k : Int)) = some (.int .u64 ((2 ^ k : Nat) : Int)) := by
  have h0 : ¬ ((k : Int) < 0) := by omega
  have hm : min ((k : Int).toNat) IntKind.u64.bits = k := by
    show min (k : Int).toNat 64 = k
    omega
  have hlt : 2 ^ k < 2 ^ 64 := Nat.pow_lt_pow_right (by decide) hk
  have hf : IntKind.u64.wrap (1 * 2 ^ k) = ((2 ^ k : Nat) : Int) := by
    have e : (2 : Int) ^ k = ((2 ^ k : Nat) : Int) := by norm_cast
    rw [Int.one_mul, e]
    have hlt' : 2 ^ k < 18446744073709551616 := hlt
    generalize 2 ^ k = y at *
    rw [wrap_u64] <;> omega
  simp only [binV, pureV, Go.binOp, Op.shift, h0, if_false, hm, hf]
  rfl
theorem ofInt_nat {x : Nat} (hx : x < 18446744073709551616) : (BitVec.ofInt 64 (x : Int)).toNat = x := by
  simp; omega
theorem b_and (x y : Nat) (hx : x < 18446744073709551616) (hy : y < 18446744073709551616) : binV .and (.int .u64 (x : Int)) (.int .u64 (y : Int)) = some (.int .u64 ((x &&& y : Nat) : Int)) := by
  rw [bin_and]
  have e : (BitVec.ofInt IntKind.u64.bits (x : Int) &&& BitVec.ofInt IntKind.u64.bits (y : Int)).toNat = x &&& y := by
    show (BitVec.ofInt 64 (x : Int) &&& BitVec.ofInt 64 (y : Int)).toNat = x &&& y
    rw [BitVec.toNat_and, ofInt_nat hx, ofInt_nat hy]
  have hle : x &&& y ≤ x := Nat.and_le_left
  rw [e, wrap_u64] <;> omega
theorem b_or (x y : Nat) (hx : x < 18446744073709551616) (hy : y < 18446744073709551616) : binV .or (.int .u64 (x : Int)) (.int .u64 (y : Int)) = some (.int .u64 ((x ||| y : Nat) : Int)) := by
  rw [bin_or]
  have e : (BitVec.ofInt IntKind.u64.bits (x : Int) ||| BitVec.ofInt IntKind.u64.bits (y : Int)).toNat = x ||| y := by
    show (BitVec.ofInt 64 (x : Int) ||| BitVec.ofInt 64 (y : Int)).toNat = x ||| y
    rw [BitVec.toNat_or, ofInt_nat hx, ofInt_nat hy]
  have hlt : x ||| y < 2 ^ 64 := Nat.or_lt_two_pow hx hy
  rw [e, wrap_u64] <;> omega

/-- Is a slot's bit set? -/
def tb (m0 m1 i : Nat) : Bool := if i < 64 then m0.testBit i else m1.testBit (i - 64)
def W64 (m : Nat) : Prop := m < 18446744073709551616

theorem quo64 (i : Nat) (hi : i < 128) : binV .quo (.int .i64 (i : Int)) (.int .i64 64) = some (.int .i64 ((i / 64 : Nat) : Int)) := by
  rw [bin_quo .i64 (i : Int) 64 (by decide)]
  have : (i : Int).tdiv 64 = ((i / 64 : Nat) : Int) := by
    rw [Int.tdiv_eq_ediv_of_nonneg (by omega)]; norm_cast
  rw [this, wrap_i64] <;> omega
theorem rem64 (i : Nat) (hi : i < 128) : binV .rem (.int .i64 (i : Int)) (.int .i64 64) = some (.int .i64 ((i % 64 : Nat) : Int)) := by
  rw [bin_rem .i64 (i : Int) 64 (by decide)]
  have : (i : Int).tmod 64 = ((i % 64 : Nat) : Int) := by
    rw [Int.tmod_eq_emod_of_nonneg (by omega)]; norm_cast
  rw [this]

theorem and_one (m k : Nat) (hm : W64 m) : binV .and (.int .u64 ((m / 2 ^ k : Nat) : Int)) (.int .u64 1) = some (.int .u64 ((m / 2 ^ k % 2 : Nat) : Int)) := by
  have h := b_and (m / 2 ^ k) 1 (Nat.lt_of_le_of_lt (Nat.div_le_self _ _) hm) (by decide)
  rw [Nat.and_one_is_mod] at h
  exact h
theorem tb_lo (m k : Nat) : (((m / 2 ^ k % 2 : Nat) : Int) == 1) = m.testBit k := by
  rw [Nat.testBit_eq_decide_div_mod_eq]
  by_cases h : m / 2 ^ k % 2 = 1
  · simp [h]
  · simp only [h, decide_false]
    have : m / 2 ^ k % 2 = 0 := by omega
    simp [this]

theorem r27 (m0 m1 i : Nat) (h0 : W64 m0) (h1 : W64 m1) (hi : i < 128) : res T 27 [.agg [.int .u64 (m0 : Int), .int .u64 (m1 : Int)], .int .i64 (i : Int)] = some (.bool (tb m0 m1 i)) := by
  refine run_res (run_pure (fn := g27) rfl rfl (by decide) ?_)
  simp only [g27, b27]
  have q := quo64 i hi
  have r := rem64 i hi
  have hk : i % 64 < 64 := Nat.mod_lt _ (by decide)
  by_cases h : i < 64
  · have e1 : i / 64 = 0 := by omega
    have e2 : i % 64 = i := by omega
    have et : tb m0 m1 i = m0.testBit i := by simp [tb, h]
    rw [e1] at q; rw [e2] at r
    have s := b_shr m0 i h
    have a := and_one m0 i h0
    have t := tb_lo m0 i
    simp only [Int.natCast_zero] at q
    simp +contextual -implicitDefEqProofs (maxSteps := 2000000) only [↓wP, wQ, wQ1, wQ2, wQ3, wR, boxE, partsOf, ↓reduceIte, Nat.reduceEqDiff, Nat.reduceAdd, Nat.reduceSub, Nat.reduceLeDiff, Nat.reduceLT, Nat.reduceMul, reduceCtorEq, Int.reduceBNe, Int.reduceBEq, Int.reduceLT, Int.reduceLE, Int.reduceGT, q, r, s, a, t, et]
  · have e1 : i / 64 = 1 := by omega
    have e2 : i % 64 = i - 64 := by omega
    have et : tb m0 m1 i = m1.testBit (i - 64) := by simp [tb, h]
    rw [e1] at q; rw [e2] at r
    have s := b_shr m1 (i - 64) (by omega)
    have a := and_one m1 (i - 64) h1
    have t := tb_lo m1 (i - 64)
    simp only [Int.natCast_one] at q
    simp +contextual -implicitDefEqProofs (maxSteps := 2000000) only [↓wP, wQ, wQ1, wQ2, wQ3, wR, boxE, partsOf, ↓reduceIte, Nat.reduceEqDiff, Nat.reduceAdd, Nat.reduceSub, Nat.reduceLeDiff, Nat.reduceLT, Nat.reduceMul, reduceCtorEq, Int.reduceBNe, Int.reduceBEq, Int.reduceLT, Int.reduceLE, Int.reduceGT, q, r, s, a, t, et]

theorem f27 (m0 m1 i : Nat) (h0 : W64 m0) (h1 : W64 m1) (hi : i < 128) (fs : Bool) (σ : Sto) (n lk : Nat) : callE T fs 27 [.agg [.int .u64 (m0 : Int), .int .u64 (m1 : Int)], .int .i64 (i : Int)] σ n lk = some (.bool (tb m0 m1 i), σ, n) :=
  callE_tr (by decide) (r27 m0 m1 i h0 h1 hi) (by simp [Tr, Tr_slV]) rfl fs σ n lk

/-- The mask of a slot. -/
def bw (i : Nat) : Nat × Nat := if i < 64 then (2 ^ i, 0) else (0, 2 ^ (i - 64))
theorem r60 (i : Nat) (hi : i < 128) : res T 60 [.int .i64 (i : Int)] = some (.agg [.int .u64 ((bw i).1 : Int), .int .u64 ((bw i).2 : Int)]) := by
  refine run_res (run_pure (fn := g60) rfl rfl (by decide) ?_)
  simp only [g60, b60]
  have q := quo64 i hi
  have r := rem64 i hi
  by_cases h : i < 64
  · have e1 : i / 64 = 0 := by omega
    have e2 : i % 64 = i := by omega
    have eb : bw i = (2 ^ i, 0) := by simp [bw, h]
    rw [e1] at q; rw [e2] at r
    have s := b_shl i h
    simp only [Int.natCast_zero] at q
    rw [eb]
    simp +contextual -implicitDefEqProofs (maxSteps := 2000000) only [↓wP, wQ, wQ1, wQ2, wQ3, wR, boxE, partsOf, ↓reduceIte, Nat.reduceEqDiff, Nat.reduceAdd, Nat.reduceSub, Nat.reduceLeDiff, Nat.reduceLT, Nat.reduceMul, reduceCtorEq, Int.reduceBNe, Int.reduceBEq, Int.reduceLT, Int.reduceLE, Int.reduceGT, q, r, s, Int.natCast_zero]
  · have e1 : i / 64 = 1 := by omega
    have e2 : i % 64 = i - 64 := by omega
    have eb : bw i = (0, 2 ^ (i - 64)) := by simp [bw, h]
    rw [e1] at q; rw [e2] at r
    have s := b_shl (i - 64) (by omega)
    simp only [Int.natCast_one] at q
    rw [eb]
    simp +contextual -implicitDefEqProofs (maxSteps := 2000000) only [↓wP, wQ, wQ1, wQ2, wQ3, wR, boxE, partsOf, ↓reduceIte, Nat.reduceEqDiff, Nat.reduceAdd, Nat.reduceSub, Nat.reduceLeDiff, Nat.reduceLT, Nat.reduceMul, reduceCtorEq, Int.reduceBNe, Int.reduceBEq, Int.reduceLT, Int.reduceLE, Int.reduceGT, q, r, s, Int.natCast_zero]

theorem f60 (i : Nat) (hi : i < 128) (fs : Bool) (σ : Sto) (n lk : Nat) : callE T fs 60 [.int .i64 (i : Int)] σ n lk = some (.agg [.int .u64 ((bw i).1 : Int), .int .u64 ((bw i).2 : Int)], σ, n) :=
  callE_tr (by decide) (r60 i hi) (by simp [Tr, Tr_slV]) rfl fs σ n lk

theorem r58 (i : Int) : res T 58 [.int .i64 i] = some (.bool (decide (0 ≤ i) && decide (i < 96))) := by
  refine run_res (run_pure (fn := g58) rfl rfl (by decide) ?_)
  simp only [g58, b58]
  simp +contextual -implicitDefEqProofs (maxSteps := 2000000) only [↓wP, wQ, wQ1, wQ2, wQ3, wR, boxE, partsOf, ↓reduceIte, Nat.reduceEqDiff, Nat.reduceAdd, Nat.reduceSub, Nat.reduceLeDiff, Nat.reduceLT, Nat.reduceMul, reduceCtorEq, Int.reduceBNe, Int.reduceBEq, Int.reduceLT, Int.reduceLE, Int.reduceGT]

theorem f58 (i : Int) (fs : Bool) (σ : Sto) (n lk : Nat) : callE T fs 58 [.int .i64 i] σ n lk = some (.bool (decide (0 ≤ i) && decide (i < 96)), σ, n) :=
  callE_tr (by decide) (r58 i) (by simp [Tr, Tr_slV]) rfl fs σ n lk

theorem r81 (x y : Nat) (hx : W64 x) (hy : W64 y) : res T 81 [.int .u64 (x : Int), .int .u64 (y : Int)] = some (.int .u64 ((x &&& y : Nat) : Int)) := by
  refine run_res (run_pure (fn := g81) rfl rfl (by decide) ?_)
  simp only [g81, b81]
  have h := b_and x y hx hy
  simp +contextual -implicitDefEqProofs (maxSteps := 2000000) only [↓wP, wQ, wQ1, wQ2, wQ3, wR, boxE, partsOf, ↓reduceIte, Nat.reduceEqDiff, Nat.reduceAdd, Nat.reduceSub, Nat.reduceLeDiff, Nat.reduceLT, Nat.reduceMul, reduceCtorEq, Int.reduceBNe, Int.reduceBEq, Int.reduceLT, Int.reduceLE, Int.reduceGT, h]

theorem f81 (x y : Nat) (hx : W64 x) (hy : W64 y) (fs : Bool) (σ : Sto) (n lk : Nat) : callE T fs 81 [.int .u64 (x : Int), .int .u64 (y : Int)] σ n lk = some (.int .u64 ((x &&& y : Nat) : Int), σ, n) :=
  callE_tr (by decide) (r81 x y hx hy) (by simp [Tr, Tr_slV]) rfl fs σ n lk
theorem r91 (x y : Nat) (hx : W64 x) (hy : W64 y) : res T 91 [.int .u64 (x : Int), .int .u64 (y : Int)] = some (.int .u64 ((x ||| y : Nat) : Int)) := by
  refine run_res (run_pure (fn := g91) rfl rfl (by decide) ?_)
  simp only [g91, b91]
  have h := b_or x y hx hy
  simp +contextual -implicitDefEqProofs (maxSteps := 2000000) only [↓wP, wQ, wQ1, wQ2, wQ3, wR, boxE, partsOf, ↓reduceIte, Nat.reduceEqDiff, Nat.reduceAdd, Nat.reduceSub, Nat.reduceLeDiff, Nat.reduceLT, Nat.reduceMul, reduceCtorEq, Int.reduceBNe, Int.reduceBEq, Int.reduceLT, Int.reduceLE, Int.reduceGT, h]

theorem f91 (x y : Nat) (hx : W64 x) (hy : W64 y) (fs : Bool) (σ : Sto) (n lk : Nat) : callE T fs 91 [.int .u64 (x : Int), .int .u64 (y : Int)] σ n lk = some (.int .u64 ((x ||| y : Nat) : Int), σ, n) :=
  callE_tr (by decide) (r91 x y hx hy) (by simp [Tr, Tr_slV]) rfl fs σ n lk
end Go.Q.S11
end

section
/- The arguments of seat 11's statements, as trees. -/
set_option linter.unusedSimpArgs false
set_option linter.unusedVariables false
set_option maxRecDepth 20000
namespace Go.Q.S11
open Go.Q Go.Proofs

theorem wf_u64 {x : Int} (h : (Lit.int .u64 x).wf = true) : 0 ≤ x ∧ x < 18446744073709551616 := by
  simp [Lit.wf, IntKind.min, IntKind.max, IntKind.signed, IntKind.bits] at h
  omega
def eU64 : Enc Try.prog 25 Int := Enc.int .u64 Try.underlying25
def eI32 : Enc Try.prog 21 Int := Enc.int .i32 Try.underlying21
def eInt : Enc Try.prog 3 Int := Enc.int .i64 Try.underlying3
def eBool : Enc Try.prog 4 Bool := Enc.bool Try.underlying4
def eVec : Enc Try.prog 28 (Option (List Int)) := Enc.slice eI32 Try.underlying28 1 (by kernel_rfl) (by decide) 4 (by kernel_rfl)
def OkV (o : Option (List Int)) : Prop := (lst o).length < 4611686018427387904
theorem okVec {o : Option (List Int)} (h : eVec.ok o) : OkV o := by
  unfold OkV
  cases o with
  | none => simp [lst]
  | some l =>
    obtain ⟨h1, h2, h3⟩ := h l rfl
    rw [reach_eq] at h2
    rw [lst_some]
    omega
def eVer : Enc Try.prog 62 (Int × Int × Option (List Int)) := Enc.map
  (Enc.struct (EncF.cons (off := 0) (sz := 1) eU64 rfl (by kernel_rfl) (EncF.cons (sz := 1) eU64 rfl (by kernel_rfl) (EncF.cons (sz := 1) eVec rfl (by kernel_rfl) EncF.nil))) Try.underlying62 (by kernel_rfl))
  (fun x => (x.1, x.2.1, x.2.2.1)) (fun x => .agg [.int .u64 x.1, .int .u64 x.2.1, slV 1 i32V x.2.2]) (fun x => OkV x.2.2)
  (fun a _ => by
    obtain ⟨b, e, v, u⟩ := a
    cases v <;> rfl)
  (fun a h => okVec h.2.2.1)
def eCel : Enc Try.prog 64 Cel := Enc.map
  (Enc.struct (EncF.cons (off := 0) (sz := 1) eBool rfl (by kernel_rfl) (EncF.cons (sz := 1) eU64 rfl (by kernel_rfl) (EncF.cons (sz := 3) eVer rfl (by kernel_rfl) EncF.nil))) Try.underlying64 (by kernel_rfl))
  (fun x => ⟨x.1, x.2.1, x.2.2.1.1, x.2.2.1.2.1, x.2.2.1.2.2⟩) celV (fun c => OkV c.v)
  (fun a _ => by
    obtain ⟨b, e, ⟨x, y, v⟩, u⟩ := a
    rfl)
  (fun a h => h.2.2.1)
def eCels : Enc Try.prog 22 (Option (List Cel)) := Enc.slice eCel Try.underlying22 5 (by kernel_rfl) (by decide) 56 (by kernel_rfl)
theorem okCels {o : Option (List Cel)} (h : eCels.ok o) : SmA o := by
  cases o with
  | none => exact ⟨by simp [lst], by simp [lst]⟩
  | some l =>
    obtain ⟨h1, h2, h3⟩ := h l rfl
    rw [reach_eq] at h2
    refine ⟨by rw [lst_some]; omega, fun c hc => ?_⟩
    have : OkV c.v := h3 c hc
    unfold OkV at this
    omega
def eArena : Enc Try.prog 24 (Option (List Cel)) := Enc.map
  (Enc.struct (EncF.cons (off := 0) (sz := 1) eCels rfl (by kernel_rfl) EncF.nil) Try.underlying24 (by kernel_rfl))
  (fun x => x.1) (fun a => .agg [slV 5 celV a]) SmA (fun a _ => by obtain ⟨a, u⟩ := a; cases a <;> rfl) (fun a h => okCels h.1)
def eMask : Enc Try.prog 27 (Nat × Nat) := Enc.map (Enc.array eU64 2 Try.underlying27 1 (by kernel_rfl) (by kernel_rfl)) (fun l => ((l[0]?.getD 0).toNat, (l[1]?.getD 0).toNat))
  (fun x => .agg [.int .u64 (x.1 : Int), .int .u64 (x.2 : Int)]) (fun x => W64 x.1 ∧ W64 x.2)
  (fun l h => by
    obtain ⟨h1, h2⟩ := h
    match l, h1 with
    | [a, b], _ =>
      have ha := wf_u64 (h2 a (by simp))
      have hb := wf_u64 (h2 b (by simp))
      show V.agg [.int .u64 a, .int .u64 b] = V.agg [.int .u64 ((a.toNat : Nat) : Int), .int .u64 ((b.toNat : Nat) : Int)]
      rw [Int.toNat_of_nonneg ha.1, Int.toNat_of_nonneg hb.1])
  (fun l h => by
    obtain ⟨h1, h2⟩ := h
    match l, h1 with
    | [a, b], _ =>
      have ha := wf_u64 (h2 a (by simp))
      have hb := wf_u64 (h2 b (by simp))
      show a.toNat < _ ∧ b.toNat < _
      omega)
def eQry : Enc Try.prog 30 (Option (List Int) × Int) := Enc.map
  (Enc.struct (EncF.cons (off := 0) (sz := 1) eVec rfl (by kernel_rfl) (EncF.cons (sz := 1) eInt rfl (by kernel_rfl) EncF.nil)) Try.underlying30 (by kernel_rfl))
  (fun x => (x.1, x.2.1)) (fun x => .agg [slV 1 i32V x.1, .int .i64 x.2]) (fun x => OkV x.1) (fun a _ => by obtain ⟨a, b, u⟩ := a; cases a <;> rfl) (fun a h => okVec h.1)
end Go.Q.S11
end

section
/- What a mask has. -/
set_option linter.unusedSimpArgs false
set_option linter.unusedVariables false
namespace Go.Q.S11
open Go.Q

theorem r80 (a b c d : Nat) (ha : W64 a) (hb : W64 b) (hc : W64 c) (hd : W64 d) : res T 80 [.agg [.int .u64 (a : Int), .int .u64 (b : Int)], .agg [.int .u64 (c : Int), .int .u64 (d : Int)], .fn 81 []] = some (.agg [.int .u64 ((a &&& c : Nat) : Int), .int .u64 ((b &&& d : Nat) : Int)]) := by
  refine run_res (run_pure (fn := g80) rfl rfl (by decide) ?_)
  simp only [g80, b80]
  simp +contextual -implicitDefEqProofs (maxSteps := 2000000) only [↓wP, wQ, wQ1, wQ2, wQ3, wR, boxE, partsOf, ↓reduceIte, Nat.reduceEqDiff, Nat.reduceAdd, Nat.reduceSub, Nat.reduceLeDiff, Nat.reduceLT, Nat.reduceMul, reduceCtorEq, Int.reduceBNe, Int.reduceBEq, Int.reduceLT, Int.reduceLE, Int.reduceGT]
  refine WC_for 2 0 (fun (j : Nat) env σ n => env 2 = .fn 81 [] ∧ env 3 = .ptr 0 2 0 0 ∧ env 4 = .ptr 1 2 0 0 ∧ env 6 = .ptr 2 2 0 0 ∧ σ 1 = some (.row 2 [.agg [.int .u64 (c : Int), .int .u64 (d : Int)]]) ∧ σ 2 = some (.row 2 [.agg [.int .u64 0, .int .u64 0]]) ∧
    σ 0 = some (.row 2 [.agg [.int .u64 ((if j = 0 then a else a &&& c : Nat) : Int), .int .u64 ((if j < 2 then b else b &&& d : Nat) : Int)]])) (by decide) (by decide) (by decide) (fun _ _ => rfl) (fun _ _ _ => rfl) ?_ ?_ _ _ _ rfl rfl ?_
  · intro j env σ n hj h1 h2 ⟨h3, h4, h5, h6, h7, h8, h9⟩
    obtain rfl | rfl : j = 0 ∨ j = 1 := by omega
    · simp only [if_true, Nat.reduceLT, Int.natCast_zero] at h1 h9
      have f := f81 a c ha hc
      simp +contextual -implicitDefEqProofs (maxSteps := 2000000) only [↓wP, wQ, wQ1, wQ2, wQ3, wR, boxE, partsOf, ↓reduceIte, Nat.reduceEqDiff, Nat.reduceAdd, Nat.reduceSub, Nat.reduceLeDiff, Nat.reduceLT, Nat.reduceMul, reduceCtorEq, Int.reduceBNe, Int.reduceBEq, Int.reduceLT, Int.reduceLE, Int.reduceGT, h1, h3, h4, h5, h6, h7, h8, h9, f]
      exact ⟨rfl, rfl⟩
    · simp only [Nat.reduceEqDiff, if_false, if_true, Nat.reduceLT, Int.natCast_one] at h1 h9
      have f := f81 b d hb hd
      simp +contextual -implicitDefEqProofs (maxSteps := 2000000) only [↓wP, wQ, wQ1, wQ2, wQ3, wR, boxE, partsOf, ↓reduceIte, Nat.reduceEqDiff, Nat.reduceAdd, Nat.reduceSub, Nat.reduceLeDiff, Nat.reduceLT, Nat.reduceMul, reduceCtorEq, Int.reduceBNe, Int.reduceBEq, Int.reduceLT, Int.reduceLE, Int.reduceGT, h1, h3, h4, h5, h6, h7, h8, h9, f]
      exact ⟨rfl, rfl⟩
  · intro env σ n ⟨h3, h4, h5, h6, h7, h8, h9⟩ h1 h2
    simp only [Nat.reduceEqDiff, if_false, Nat.lt_irrefl] at h9
    simp +contextual -implicitDefEqProofs (maxSteps := 2000000) only [↓wP, wQ, wQ1, wQ2, wQ3, wR, boxE, partsOf, ↓reduceIte, Nat.reduceEqDiff, Nat.reduceAdd, Nat.reduceSub, Nat.reduceLeDiff, Nat.reduceLT, Nat.reduceMul, reduceCtorEq, Int.reduceBNe, Int.reduceBEq, Int.reduceLT, Int.reduceLE, Int.reduceGT, h4, h6, h9, h8]
  · simp +contextual -implicitDefEqProofs (maxSteps := 2000000) only [↓wP, wQ, wQ1, wQ2, wQ3, wR, boxE, partsOf, ↓reduceIte, Nat.reduceEqDiff, Nat.reduceAdd, Nat.reduceSub, Nat.reduceLeDiff, Nat.reduceLT, Nat.reduceMul, reduceCtorEq, Int.reduceBNe, Int.reduceBEq, Int.reduceLT, Int.reduceLE, Int.reduceGT]

theorem f80 (a b c d : Nat) (ha : W64 a) (hb : W64 b) (hc : W64 c) (hd : W64 d) (fs : Bool) (σ : Sto) (n lk : Nat) : callE T fs 80 [.agg [.int .u64 (a : Int), .int .u64 (b : Int)], .agg [.int .u64 (c : Int), .int .u64 (d : Int)], .fn 81 []] σ n lk = some (.agg [.int .u64 ((a &&& c : Nat) : Int), .int .u64 ((b &&& d : Nat) : Int)], σ, n) :=
  callE_tr (by decide) (r80 a b c d ha hb hc hd) (by simp [Tr, Tr_slV]) rfl fs σ n lk

theorem r59 (a b c d : Nat) (ha : W64 a) (hb : W64 b) (hc : W64 c) (hd : W64 d) : res T 59 [.agg [.int .u64 (a : Int), .int .u64 (b : Int)], .agg [.int .u64 (c : Int), .int .u64 (d : Int)]] = some (.agg [.int .u64 ((a &&& c : Nat) : Int), .int .u64 ((b &&& d : Nat) : Int)]) := by
  refine run_res (run_pure (fn := g59) rfl rfl (by decide) ?_)
  simp only [g59, b59]
  have f := f80 a b c d ha hb hc hd
  simp +contextual -implicitDefEqProofs (maxSteps := 2000000) only [↓wP, wQ, wQ1, wQ2, wQ3, wR, boxE, partsOf, ↓reduceIte, Nat.reduceEqDiff, Nat.reduceAdd, Nat.reduceSub, Nat.reduceLeDiff, Nat.reduceLT, Nat.reduceMul, reduceCtorEq, Int.reduceBNe, Int.reduceBEq, Int.reduceLT, Int.reduceLE, Int.reduceGT, f]

theorem f59 (a b c d : Nat) (ha : W64 a) (hb : W64 b) (hc : W64 c) (hd : W64 d) (fs : Bool) (σ : Sto) (n lk : Nat) : callE T fs 59 [.agg [.int .u64 (a : Int), .int .u64 (b : Int)], .agg [.int .u64 (c : Int), .int .u64 (d : Int)]] σ n lk = some (.agg [.int .u64 ((a &&& c : Nat) : Int), .int .u64 ((b &&& d : Nat) : Int)], σ, n) :=
  callE_tr (by decide) (r59 a b c d ha hb hc hd) (by simp [Tr, Tr_slV]) rfl fs σ n lk

theorem bw_lt (i : Nat) (hi : i < 128) : W64 (bw i).1 ∧ W64 (bw i).2 := by
  unfold bw W64
  split
  · have : 2 ^ i < 2 ^ 64 := Nat.pow_lt_pow_right (by decide) (by assumption)
    exact ⟨this, by simp⟩
  · have : 2 ^ (i - 64) < 2 ^ 64 := Nat.pow_lt_pow_right (by decide) (by omega)
    exact ⟨by simp, this⟩
theorem bit0 (m k : Nat) : (((m &&& 2 ^ k : Nat) : Int) == 0) = !m.testBit k := by
  cases h : m.testBit k
  · have e : m &&& 2 ^ k = 0 := by
      apply Nat.eq_of_testBit_eq
      intro i
      rw [Nat.testBit_and, Nat.testBit_two_pow, Nat.zero_testBit]
      by_cases hk : k = i
      · subst hk; simp [h]
      · simp [hk]
    simp [e]
  · have e : m &&& 2 ^ k ≠ 0 := by
      intro e
      have := congrArg (fun x => x.testBit k) e
      simp [Nat.testBit_and, h] at this
    simp
    exact_mod_cast e
theorem hasbit (m0 m1 i : Nat) : (((m0 &&& (bw i).1 : Nat) : Int) == 0 && ((m1 &&& (bw i).2 : Nat) : Int) == 0) = !tb m0 m1 i := by
  unfold bw tb
  split
  · rename_i h
    simp only [bit0, Nat.and_zero]
    simp
  · rename_i h
    simp only [bit0, Nat.and_zero]
    simp

theorem r36 (m0 m1 i : Nat) (h0 : W64 m0) (h1 : W64 m1) (hi : i < 128) : res T 36 [.agg [.int .u64 (m0 : Int), .int .u64 (m1 : Int)], .int .i64 (i : Int)] = some (.bool (decide (i < 96) && tb m0 m1 i)) := by
  refine run_res (run_pure (fn := g36) rfl rfl (by decide) ?_)
  simp only [g36, b36]
  have f1 := f58 (i : Int)
  have f2 := f60 i hi
  obtain ⟨w1, w2⟩ := bw_lt i hi
  have f3 := f59 m0 m1 (bw i).1 (bw i).2 h0 h1 w1 w2
  have hb := hasbit m0 m1 i
  have hnn : decide ((0 : Int) ≤ (i : Int)) = true := by simp
  by_cases h : i < 96
  · have hd : decide ((i : Int) < 96) = true := by simp; omega
    have hd' : decide (i < 96) = true := by simpa using h
    rw [hnn, hd] at f1
    simp +contextual -implicitDefEqProofs (maxSteps := 2000000) only [↓wP, wQ, wQ1, wQ2, wQ3, wR, boxE, partsOf, ↓reduceIte, Nat.reduceEqDiff, Nat.reduceAdd, Nat.reduceSub, Nat.reduceLeDiff, Nat.reduceLT, Nat.reduceMul, reduceCtorEq, Int.reduceBNe, Int.reduceBEq, Int.reduceLT, Int.reduceLE, Int.reduceGT, f1, f2, f3, eqc_two, hb, hd', Bool.bne_true, Bool.not_not]
  · have hd : decide ((i : Int) < 96) = false := by simp; omega
    have hd' : decide (i < 96) = false := by simpa using h
    rw [hnn, hd] at f1
    simp +contextual -implicitDefEqProofs (maxSteps := 2000000) only [↓wP, wQ, wQ1, wQ2, wQ3, wR, boxE, partsOf, ↓reduceIte, Nat.reduceEqDiff, Nat.reduceAdd, Nat.reduceSub, Nat.reduceLeDiff, Nat.reduceLT, Nat.reduceMul, reduceCtorEq, Int.reduceBNe, Int.reduceBEq, Int.reduceLT, Int.reduceLE, Int.reduceGT, f1, f2, f3, hd']

theorem f36 (m0 m1 i : Nat) (h0 : W64 m0) (h1 : W64 m1) (hi : i < 128) (fs : Bool) (σ : Sto) (n lk : Nat) : callE T fs 36 [.agg [.int .u64 (m0 : Int), .int .u64 (m1 : Int)], .int .i64 (i : Int)] σ n lk = some (.bool (decide (i < 96) && tb m0 m1 i), σ, n) :=
  callE_tr (by decide) (r36 m0 m1 i h0 h1 hi) (by simp [Tr, Tr_slV]) rfl fs σ n lk

theorem r35 (m0 m1 i : Nat) (h0 : W64 m0) (h1 : W64 m1) (hi : i < 128) : res T 35 [.int .i64 (i : Int), .box [.int .u64 (m0 : Int), .int .u64 (m1 : Int)]] = some (.bool (decide (i < 96) && tb m0 m1 i)) := by
  refine run_res (run_pure (fn := g35) rfl rfl (by decide) ?_)
  simp only [g35, b35]
  have f := f36 m0 m1 i h0 h1 hi
  simp +contextual -implicitDefEqProofs (maxSteps := 2000000) only [↓wP, wQ, wQ1, wQ2, wQ3, wR, boxE, partsOf, ↓reduceIte, Nat.reduceEqDiff, Nat.reduceAdd, Nat.reduceSub, Nat.reduceLeDiff, Nat.reduceLT, Nat.reduceMul, reduceCtorEq, Int.reduceBNe, Int.reduceBEq, Int.reduceLT, Int.reduceLE, Int.reduceGT, f]

theorem f35 (m0 m1 i : Nat) (h0 : W64 m0) (h1 : W64 m1) (hi : i < 128) (fs : Bool) (σ : Sto) (n lk : Nat) : callE T fs 35 [.int .i64 (i : Int), .box [.int .u64 (m0 : Int), .int .u64 (m1 : Int)]] σ n lk = some (.bool (decide (i < 96) && tb m0 m1 i), σ, n) :=
  callE_tr (by decide) (r35 m0 m1 i h0 h1 hi) (by simp [Tr, Tr_slV]) rfl fs σ n lk
end Go.Q.S11
end

section
/- Hits, and which stands ahead. -/
set_option linter.unusedSimpArgs false
set_option linter.unusedVariables false
namespace Go.Q.S11
open Go.Q

structure Hit where
  id : Int
  d : Int
  deriving Inhabited, DecidableEq

def hitV (x : Hit) : V := .agg [.int .u64 x.id, .int .u64 x.d]

def cmpU (x y : Int) : Int := if x < y then -1 else if y < x then 1 else 0
def cmpH (a b : Hit) : Int := if cmpU a.d b.d = 0 then cmpU a.id b.id else cmpU a.d b.d
/-- Does a hit stand ahead of another one? -/
def ahead (a b : Hit) : Bool := decide (a.d < b.d) || (a.d == b.d && decide (a.id < b.id))

theorem cmp_lt (a b : Hit) : decide (cmpH a b < 0) = ahead a b := by
  unfold cmpH cmpU ahead
  by_cases h1 : a.d < b.d
  · simp [h1]
  · by_cases h2 : b.d < a.d
    · have : a.d ≠ b.d := by omega
      simp [h1, h2, this]
    · have e : a.d = b.d := by omega
      by_cases h3 : a.id < b.id
      · simp [e, h3]
      · by_cases h4 : b.id < a.id <;> simp [e, h3, h4]
theorem cmp_gt (a b : Hit) : decide (0 < cmpH a b) = ahead b a := by
  unfold cmpH cmpU ahead
  by_cases h1 : b.d < a.d
  · have : ¬ a.d < b.d := by omega
    simp [h1, this]
  · by_cases h2 : a.d < b.d
    · have : b.d ≠ a.d := by omega
      simp [h1, h2, this]
    · have e : b.d = a.d := by omega
      by_cases h3 : b.id < a.id
      · have : ¬ a.id < b.id := by omega
        simp [e, h3, this]
      · by_cases h4 : a.id < b.id <;> simp [e, h3, h4]

theorem r74 (x : Int) : res T 74 [.int .u64 x] = some (.bool false) := by
  refine run_res (run_pure (fn := g74) rfl rfl (by decide) ?_)
  simp only [g74, b74]
  simp +contextual -implicitDefEqProofs (maxSteps := 2000000) only [↓wP, wQ, wQ1, wQ2, wQ3, wR, boxE, partsOf, ↓reduceIte, Nat.reduceEqDiff, Nat.reduceAdd, Nat.reduceSub, Nat.reduceLeDiff, Nat.reduceLT, Nat.reduceMul, reduceCtorEq, Int.reduceBNe, Int.reduceBEq, Int.reduceLT, Int.reduceLE, Int.reduceGT]

theorem f74 (x : Int) (fs : Bool) (σ : Sto) (n lk : Nat) : callE T fs 74 [.int .u64 x] σ n lk = some (.bool false, σ, n) :=
  callE_tr (by decide) (r74 x) (by simp [Tr, Tr_slV]) rfl fs σ n lk

theorem r48 (x y : Int) : res T 48 [.int .u64 x, .int .u64 y] = some (.int .i64 (cmpU x y)) := by
  refine run_res (run_pure (fn := g48) rfl rfl (by decide) ?_)
  simp only [g48, b48]
  simp +contextual -implicitDefEqProofs (maxSteps := 2000000) only [↓wP, wQ, wQ1, wQ2, wQ3, wR, boxE, partsOf, ↓reduceIte, Nat.reduceEqDiff, Nat.reduceAdd, Nat.reduceSub, Nat.reduceLeDiff, Nat.reduceLT, Nat.reduceMul, reduceCtorEq, Int.reduceBNe, Int.reduceBEq, Int.reduceLT, Int.reduceLE, Int.reduceGT, f74]
  unfold cmpU
  by_cases h1 : x < y
  · simp +contextual -implicitDefEqProofs (maxSteps := 2000000) only [↓wP, wQ, wQ1, wQ2, wQ3, wR, boxE, partsOf, ↓reduceIte, Nat.reduceEqDiff, Nat.reduceAdd, Nat.reduceSub, Nat.reduceLeDiff, Nat.reduceLT, Nat.reduceMul, reduceCtorEq, Int.reduceBNe, Int.reduceBEq, Int.reduceLT, Int.reduceLE, Int.reduceGT, h1]
  · by_cases h2 : y < x
    · simp +contextual -implicitDefEqProofs (maxSteps := 2000000) only [↓wP, wQ, wQ1, wQ2, wQ3, wR, boxE, partsOf, ↓reduceIte, Nat.reduceEqDiff, Nat.reduceAdd, Nat.reduceSub, Nat.reduceLeDiff, Nat.reduceLT, Nat.reduceMul, reduceCtorEq, Int.reduceBNe, Int.reduceBEq, Int.reduceLT, Int.reduceLE, Int.reduceGT, h1, h2]
    · simp +contextual -implicitDefEqProofs (maxSteps := 2000000) only [↓wP, wQ, wQ1, wQ2, wQ3, wR, boxE, partsOf, ↓reduceIte, Nat.reduceEqDiff, Nat.reduceAdd, Nat.reduceSub, Nat.reduceLeDiff, Nat.reduceLT, Nat.reduceMul, reduceCtorEq, Int.reduceBNe, Int.reduceBEq, Int.reduceLT, Int.reduceLE, Int.reduceGT, h1, h2]

theorem f48 (x y : Int) (fs : Bool) (σ : Sto) (n lk : Nat) : callE T fs 48 [.int .u64 x, .int .u64 y] σ n lk = some (.int .i64 (cmpU x y), σ, n) :=
  callE_tr (by decide) (r48 x y) (by simp [Tr, Tr_slV]) rfl fs σ n lk

theorem r47 (a b : Int) : res T 47 [.sl 1 [.int .i64 a, .int .i64 b]] = some (.int .i64 (if a = 0 then b else a)) := by
  refine run_res (run_pure (fn := g47) rfl rfl (by decide) ?_)
  simp only [g47, b47]
  simp +contextual -implicitDefEqProofs (maxSteps := 2000000) only [↓wP, wQ, wQ1, wQ2, wQ3, wR, boxE, partsOf, ↓reduceIte, Nat.reduceEqDiff, Nat.reduceAdd, Nat.reduceSub, Nat.reduceLeDiff, Nat.reduceLT, Nat.reduceMul, reduceCtorEq, Int.reduceBNe, Int.reduceBEq, Int.reduceLT, Int.reduceLE, Int.reduceGT]
  refine WC_for 2 0 (fun (j : Nat) env σ n => env 3 = .int .i64 0 ∧ env 6 = .sl 1 [.int .i64 a, .int .i64 b] ∧ (0 < j → a = 0) ∧ (1 < j → b = 0)) (by omega) (by decide) (by decide) (fun _ _ => rfl) (fun _ _ _ => rfl) ?_ ?_ _ _ _ rfl rfl ?_
  · intro j env σ n hj h1 h2 ⟨h3, h4, h5, h6⟩
    simp only [vl_tmp] at h2
    match j, hj with
    | 0, _ =>
      by_cases ha : a = 0
      · have hd : (a != 0) = false := by simp [ha]
        simp +contextual -implicitDefEqProofs (maxSteps := 2000000) only [↓wP, wQ, wQ1, wQ2, wQ3, wR, boxE, partsOf, ↓reduceIte, Nat.reduceEqDiff, Nat.reduceAdd, Nat.reduceSub, Nat.reduceLeDiff, Nat.reduceLT, Nat.reduceMul, reduceCtorEq, Int.reduceBNe, Int.reduceBEq, Int.reduceLT, Int.reduceLE, Int.reduceGT, h1, h2, h3, h4, hd]
        exact ⟨fun _ => ha, fun h => h.elim⟩
      · have hd : (a != 0) = true := by simp [ha]
        simp +contextual -implicitDefEqProofs (maxSteps := 2000000) only [↓wP, wQ, wQ1, wQ2, wQ3, wR, boxE, partsOf, ↓reduceIte, Nat.reduceEqDiff, Nat.reduceAdd, Nat.reduceSub, Nat.reduceLeDiff, Nat.reduceLT, Nat.reduceMul, reduceCtorEq, Int.reduceBNe, Int.reduceBEq, Int.reduceLT, Int.reduceLE, Int.reduceGT, h1, h2, h3, h4, hd, ha]
    | 1, _ =>
      have ha := h5 (by omega)
      by_cases hb : b = 0
      · have hd : (b != 0) = false := by simp [hb]
        simp +contextual -implicitDefEqProofs (maxSteps := 2000000) only [↓wP, wQ, wQ1, wQ2, wQ3, wR, boxE, partsOf, ↓reduceIte, Nat.reduceEqDiff, Nat.reduceAdd, Nat.reduceSub, Nat.reduceLeDiff, Nat.reduceLT, Nat.reduceMul, reduceCtorEq, Int.reduceBNe, Int.reduceBEq, Int.reduceLT, Int.reduceLE, Int.reduceGT, h1, h2, h3, h4, hd]
        exact ⟨fun _ => ha, fun _ => hb⟩
      · have hd : (b != 0) = true := by simp [hb]
        simp +contextual -implicitDefEqProofs (maxSteps := 2000000) only [↓wP, wQ, wQ1, wQ2, wQ3, wR, boxE, partsOf, ↓reduceIte, Nat.reduceEqDiff, Nat.reduceAdd, Nat.reduceSub, Nat.reduceLeDiff, Nat.reduceLT, Nat.reduceMul, reduceCtorEq, Int.reduceBNe, Int.reduceBEq, Int.reduceLT, Int.reduceLE, Int.reduceGT, h1, h2, h3, h4, hd, ha]
  · intro env σ n ⟨h3, h4, h5, h6⟩ h1 h2
    have ha : a = 0 := h5 (by decide)
    have hb : b = 0 := h6 (by decide)
    simp +contextual -implicitDefEqProofs (maxSteps := 2000000) only [↓wP, wQ, wQ1, wQ2, wQ3, wR, boxE, partsOf, ↓reduceIte, Nat.reduceEqDiff, Nat.reduceAdd, Nat.reduceSub, Nat.reduceLeDiff, Nat.reduceLT, Nat.reduceMul, reduceCtorEq, Int.reduceBNe, Int.reduceBEq, Int.reduceLT, Int.reduceLE, Int.reduceGT, h3, ha, hb]
  · simp +contextual -implicitDefEqProofs (maxSteps := 2000000) only [↓wP, wQ, wQ1, wQ2, wQ3, wR, boxE, partsOf, ↓reduceIte, Nat.reduceEqDiff, Nat.reduceAdd, Nat.reduceSub, Nat.reduceLeDiff, Nat.reduceLT, Nat.reduceMul, reduceCtorEq, Int.reduceBNe, Int.reduceBEq, Int.reduceLT, Int.reduceLE, Int.reduceGT]
    exact ⟨fun h => absurd h (by decide), fun h => absurd h (by decide)⟩

theorem f47 (a b : Int) (fs : Bool) (σ : Sto) (n lk : Nat) : callE T fs 47 [.sl 1 [.int .i64 a, .int .i64 b]] σ n lk = some (.int .i64 (if a = 0 then b else a), σ, n) :=
  callE_tr (by decide) (r47 a b) (by simp [Tr, Tr_slV]) rfl fs σ n lk

theorem r24 (i d i' d' : Int) : res T 24 [.agg [.int .u64 i, .int .u64 d], .agg [.int .u64 i', .int .u64 d']] = some (.int .i64 (cmpH ⟨i, d⟩ ⟨i', d'⟩)) := by
  refine run_res (run_pure (fn := g24) rfl rfl (by decide) ?_)
  simp only [g24, b24]
  have h26 := r47 (cmpU d d') (cmpU i i')
  have hm26 : T.mode 47 ≠ .raw := by decide
  simp +contextual -implicitDefEqProofs (maxSteps := 2000000) only [↓wP, wQ, wQ1, wQ2, wQ3, wR, boxE, partsOf, ↓reduceIte, Nat.reduceEqDiff, Nat.reduceAdd, Nat.reduceSub, Nat.reduceLeDiff, Nat.reduceLT, Nat.reduceMul, reduceCtorEq, Int.reduceBNe, Int.reduceBEq, Int.reduceLT, Int.reduceLE, Int.reduceGT, f48, callE_eq hm26, frz_rf, h26]
  rfl

theorem f24 (i d i' d' : Int) (fs : Bool) (σ : Sto) (n lk : Nat) : callE T fs 24 [.agg [.int .u64 i, .int .u64 d], .agg [.int .u64 i', .int .u64 d']] σ n lk = some (.int .i64 (cmpH ⟨i, d⟩ ⟨i', d'⟩), σ, n) :=
  callE_tr (by decide) (r24 i d i' d') (by simp [Tr, Tr_slV]) rfl fs σ n lk

end Go.Q.S11
end

section
/- The pivot of a sort. -/
set_option linter.unusedSimpArgs false
set_option linter.unusedVariables false
namespace Go.Q.S11
open Go.Q

/-- A row of hits, as it stands. -/
def rw' (d : Array Hit) : List V := d.toList.map hitV
theorem rw_len (d : Array Hit) : (rw' d).length = d.size := by simp [rw']
theorem rw_at {d : Array Hit} {i : Nat} (h : i < d.size) : (rw' d)[i]? = some (.agg [.int .u64 (d[i]!).id, .int .u64 (d[i]!).d]) := by
  unfold rw'
  rw [List.getElem?_map, List.getElem?_eq_getElem (by simpa using h), Option.map_some]
  simp [hitV, h]

theorem wrap_nat {m : Nat} (h : m < 9223372036854775808) : IntKind.i64.wrap (m : Int) = (m : Int) := by rw [wrap_i64] <;> omega

theorem bin_quo4 (m : Nat) (h : m < 9223372036854775808) : binV .quo (.int .i64 (m : Int)) (.int .i64 4) = some (.int .i64 ((m / 4 : Nat) : Int)) := by
  rw [bin_quo .i64 (m : Int) 4 (by decide)]
  have e : (m : Int).tdiv 4 = ((m / 4 : Nat) : Int) := rfl
  rw [e, wrap_nat (by omega)]
theorem raw113 (d : Array Hit) (a b : Nat) (s : Int) (sid n : Nat) (σ : Sto) (ha : a < d.size) (hb : b < d.size) (hs : σ sid = some (.row 1 [.int .i64 s])) {Q : V → Sto → Nat → Prop}
    (hQ : ∀ (x y : Nat) (s' : Int) (σ' : Sto), (x = a ∨ x = b) → (y = a ∨ y = b) → σ' sid = some (.row 1 [.int .i64 s']) → (∀ i, i ≠ sid → σ' i = σ i) → Q (.tup [.int .i64 (x : Int), .int .i64 (y : Int)]) σ' n) :
    run T (.raw 113 [.sl 2 (rw' d), .int .i64 (a : Int), .int .i64 (b : Int), .ptr sid 1 0 0, .fn 24 []] σ n 0) (memQ Q) := by
  refine run_rawE (fn := g113) rfl rfl ?_
  simp only [g113, b113]
  have hxa := rw_at ha
  have hxb := rw_at hb
  by_cases hc : cmpH d[b]! d[a]! < 0
  · simp +contextual -implicitDefEqProofs (maxSteps := 2000000) only [↓wP, wQ, wQ1, wQ2, wQ3, wR, boxE, partsOf, ↓reduceIte, Nat.reduceEqDiff, Nat.reduceAdd, Nat.reduceSub, Nat.reduceLeDiff, Nat.reduceLT, Nat.reduceMul, reduceCtorEq, Int.reduceBNe, Int.reduceBEq, Int.reduceLT, Int.reduceLE, Int.reduceGT, hxa, hxb, f24, hc, hs]
    exact hQ b a _ _ (.inr rfl) (.inl rfl) (by simp [upd]; rfl) (fun i hi => by simp [upd, hi])
  · simp +contextual -implicitDefEqProofs (maxSteps := 2000000) only [↓wP, wQ, wQ1, wQ2, wQ3, wR, boxE, partsOf, ↓reduceIte, Nat.reduceEqDiff, Nat.reduceAdd, Nat.reduceSub, Nat.reduceLeDiff, Nat.reduceLT, Nat.reduceMul, reduceCtorEq, Int.reduceBNe, Int.reduceBEq, Int.reduceLT, Int.reduceLE, Int.reduceGT, hxa, hxb, f24, hc, hs]
    exact hQ a b _ _ (.inl rfl) (.inr rfl) hs (fun i hi => rfl)

theorem raw110 (d : Array Hit) (a b c : Nat) (s : Int) (sid n : Nat) (σ : Sto) (ha : a < d.size) (hb : b < d.size) (hc : c < d.size) (hs : σ sid = some (.row 1 [.int .i64 s])) {Q : V → Sto → Nat → Prop}
    (hQ : ∀ (x : Nat) (s' : Int) (σ' : Sto), (x = a ∨ x = b ∨ x = c) → σ' sid = some (.row 1 [.int .i64 s']) → (∀ i, i ≠ sid → σ' i = σ i) → Q (.int .i64 (x : Int)) σ' n) :
    run T (.raw 110 [.sl 2 (rw' d), .int .i64 (a : Int), .int .i64 (b : Int), .int .i64 (c : Int), .ptr sid 1 0 0, .fn 24 []] σ n 0) (memQ Q) := by
  refine run_rawE (fn := g110) rfl rfl ?_
  simp only [g110, b110]
  simp +contextual -implicitDefEqProofs (maxSteps := 2000000) only [↓wP, wQ, wQ1, wQ2, wQ3, wR, boxE, partsOf, ↓reduceIte, Nat.reduceEqDiff, Nat.reduceAdd, Nat.reduceSub, Nat.reduceLeDiff, Nat.reduceLT, Nat.reduceMul, reduceCtorEq, Int.reduceBNe, Int.reduceBEq, Int.reduceLT, Int.reduceLE, Int.reduceGT]
  refine stepW_raw (by decide) (raw113 d a b s sid n σ ha hb hs fun x y s1 σ1 hx hy h1 h2 => ?_)
  simp +contextual -implicitDefEqProofs (maxSteps := 2000000) only [↓wP, wQ, wQ1, wQ2, wQ3, wR, boxE, partsOf, ↓reduceIte, Nat.reduceEqDiff, Nat.reduceAdd, Nat.reduceSub, Nat.reduceLeDiff, Nat.reduceLT, Nat.reduceMul, reduceCtorEq, Int.reduceBNe, Int.reduceBEq, Int.reduceLT, Int.reduceLE, Int.reduceGT]
  have hy' : y < d.size := by rcases hy with rfl | rfl <;> assumption
  have hx' : x < d.size := by rcases hx with rfl | rfl <;> assumption
  refine stepW_raw (by decide) (raw113 d y c s1 sid n σ1 hy' hc h1 fun x2 y2 s2 σ2 hx2 hy2 h3 h4 => ?_)
  simp +contextual -implicitDefEqProofs (maxSteps := 2000000) only [↓wP, wQ, wQ1, wQ2, wQ3, wR, boxE, partsOf, ↓reduceIte, Nat.reduceEqDiff, Nat.reduceAdd, Nat.reduceSub, Nat.reduceLeDiff, Nat.reduceLT, Nat.reduceMul, reduceCtorEq, Int.reduceBNe, Int.reduceBEq, Int.reduceLT, Int.reduceLE, Int.reduceGT]
  have hx2' : x2 < d.size := by rcases hx2 with rfl | rfl <;> assumption
  refine stepW_raw (by decide) (raw113 d x x2 s2 sid n σ2 hx' hx2' h3 fun x3 y3 s3 σ3 hx3 hy3 h5 h6 => ?_)
  simp +contextual -implicitDefEqProofs (maxSteps := 2000000) only [↓wP, wQ, wQ1, wQ2, wQ3, wR, boxE, partsOf, ↓reduceIte, Nat.reduceEqDiff, Nat.reduceAdd, Nat.reduceSub, Nat.reduceLeDiff, Nat.reduceLT, Nat.reduceMul, reduceCtorEq, Int.reduceBNe, Int.reduceBEq, Int.reduceLT, Int.reduceLE, Int.reduceGT]
  refine hQ y3 s3 σ3 ?_ h5 (fun i hi => by rw [h6 i hi, h4 i hi, h2 i hi])
  rcases hy3 with rfl | rfl
  · rcases hx with rfl | rfl <;> simp
  · rcases hx2 with rfl | rfl
    · rcases hy with rfl | rfl <;> simp
    · simp

/-- The pivot, of fewer than fifty: somewhere in the part; a hint. -/
theorem r96 (d : Array Hit) (a b : Nat) (hab : a < b) (hb : b ≤ d.size) (h50 : b - a < 50) (hn : d.size < 1000000) :
    ∃ (p : Nat) (h : Int), a ≤ p ∧ p < b ∧ (h = 0 ∨ h = 1 ∨ h = 2) ∧ res T 96 [.sl 2 (rw' d), .int .i64 (a : Int), .int .i64 (b : Int), .fn 24 []] = some (.tup [.int .i64 (p : Int), .int .i64 h]) := by
  obtain ⟨r, hr, p, h, h1, h2, h3, rfl⟩ := res_pure (T := T) (f := 96) (args := [.sl 2 (rw' d), .int .i64 (a : Int), .int .i64 (b : Int), .fn 24 []])
      (R := fun r => ∃ (p : Nat) (h : Int), a ≤ p ∧ p < b ∧ (h = 0 ∨ h = 1 ∨ h = 2) ∧ r = .tup [.int .i64 (p : Int), .int .i64 h]) (fn := g96) rfl rfl (by decide) (by
    simp only [g96, b96]
    have w1 : IntKind.i64.wrap ((b : Int) - (a : Int)) = ((b - a : Nat) : Int) := by rw [wrap_i64] <;> omega
    have q4 := bin_quo4 (b - a) (by omega)
    have w2 : IntKind.i64.wrap ((((b - a) / 4 : Nat) : Int) * 1) = (((b - a) / 4 : Nat) : Int) := by rw [wrap_i64] <;> omega
    have w3 : IntKind.i64.wrap ((((b - a) / 4 : Nat) : Int) * 2) = (((b - a) / 4 * 2 : Nat) : Int) := by rw [wrap_i64] <;> omega
    have w4 : IntKind.i64.wrap ((((b - a) / 4 : Nat) : Int) * 3) = (((b - a) / 4 * 3 : Nat) : Int) := by rw [wrap_i64] <;> omega
    have w5 : IntKind.i64.wrap ((a : Int) + (((b - a) / 4 : Nat) : Int)) = ((a + (b - a) / 4 : Nat) : Int) := by rw [wrap_i64] <;> omega
    have w6 : IntKind.i64.wrap ((a : Int) + (((b - a) / 4 * 2 : Nat) : Int)) = ((a + (b - a) / 4 * 2 : Nat) : Int) := by rw [wrap_i64] <;> omega
    have w7 : IntKind.i64.wrap ((a : Int) + (((b - a) / 4 * 3 : Nat) : Int)) = ((a + (b - a) / 4 * 3 : Nat) : Int) := by rw [wrap_i64] <;> omega
    have c50 : ¬ (50 : Int) ≤ ((b - a : Nat) : Int) := by omega
    have fin : ∀ (p : Nat) (s' : Int), a ≤ p → p < b → True := fun _ _ _ _ => trivial
    by_cases c8 : (8 : Int) ≤ ((b - a : Nat) : Int)
    · simp +contextual -implicitDefEqProofs (maxSteps := 2000000) only [↓wP, wQ, wQ1, wQ2, wQ3, wR, boxE, partsOf, ↓reduceIte, Nat.reduceEqDiff, Nat.reduceAdd, Nat.reduceSub, Nat.reduceLeDiff, Nat.reduceLT, Nat.reduceMul, reduceCtorEq, Int.reduceBNe, Int.reduceBEq, Int.reduceLT, Int.reduceLE, Int.reduceGT, w1, q4, w2, w3, w4, w5, w6, w7, c8, c50]
      refine stepW_raw (by decide) (raw110 d _ _ _ 0 0 1 _ (by omega) (by omega) (by omega) (by simp [upd]) fun x s' σ' hx h1 h2 => ?_)
      have hx' : a ≤ x ∧ x < b := by omega
      by_cases e0 : s' = 0
      · simp +contextual -implicitDefEqProofs (maxSteps := 2000000) only [↓wP, wQ, wQ1, wQ2, wQ3, wR, boxE, partsOf, ↓reduceIte, Nat.reduceEqDiff, Nat.reduceAdd, Nat.reduceSub, Nat.reduceLeDiff, Nat.reduceLT, Nat.reduceMul, reduceCtorEq, Int.reduceBNe, Int.reduceBEq, Int.reduceLT, Int.reduceLE, Int.reduceGT, h1, e0]
        exact ⟨x, 1, hx'.1, hx'.2, by simp, rfl⟩
      · have d0 : (s' == 0) = false := by simpa using e0
        by_cases e12 : s' = 12
        · simp +contextual -implicitDefEqProofs (maxSteps := 2000000) only [↓wP, wQ, wQ1, wQ2, wQ3, wR, boxE, partsOf, ↓reduceIte, Nat.reduceEqDiff, Nat.reduceAdd, Nat.reduceSub, Nat.reduceLeDiff, Nat.reduceLT, Nat.reduceMul, reduceCtorEq, Int.reduceBNe, Int.reduceBEq, Int.reduceLT, Int.reduceLE, Int.reduceGT, h1, e12]
          exact ⟨x, 2, hx'.1, hx'.2, by simp, rfl⟩
        · have d12 : (s' == 12) = false := by simpa using e12
          simp +contextual -implicitDefEqProofs (maxSteps := 2000000) only [↓wP, wQ, wQ1, wQ2, wQ3, wR, boxE, partsOf, ↓reduceIte, Nat.reduceEqDiff, Nat.reduceAdd, Nat.reduceSub, Nat.reduceLeDiff, Nat.reduceLT, Nat.reduceMul, reduceCtorEq, Int.reduceBNe, Int.reduceBEq, Int.reduceLT, Int.reduceLE, Int.reduceGT, h1, d0, d12]
          exact ⟨x, 0, hx'.1, hx'.2, by simp, rfl⟩
    · simp +contextual -implicitDefEqProofs (maxSteps := 2000000) only [↓wP, wQ, wQ1, wQ2, wQ3, wR, boxE, partsOf, ↓reduceIte, Nat.reduceEqDiff, Nat.reduceAdd, Nat.reduceSub, Nat.reduceLeDiff, Nat.reduceLT, Nat.reduceMul, reduceCtorEq, Int.reduceBNe, Int.reduceBEq, Int.reduceLT, Int.reduceLE, Int.reduceGT, w1, q4, w2, w3, w4, w5, w6, w7, c8, c50]
      exact ⟨a + (b - a) / 4 * 2, 1, by omega, by omega, by simp, rfl⟩)
  exact ⟨p, h, h1, h2, h3, hr⟩

end Go.Q.S11
end

section
/- Small sorts, a part turned round, patterns broken. -/
set_option linter.unusedSimpArgs false
set_option linter.unusedVariables false
namespace Go.Q.S11
open Go.Q Go.Sort

/-- The row stands at id; all else is as it was. -/
def At (σ σ0 : Sto) (id : Nat) (d : Array Hit) : Prop := σ id = some (.row 2 (rw' d)) ∧ ∀ i, i ≠ id → σ i = σ0 i

def uH (x : Hit) : V := .agg [.int .u64 x.id, .int .u64 x.d]
theorem uH_eq (x : Hit) : hitV x = uH x := rfl

theorem rw_set {d : Array Hit} {i : Nat} {x : Hit} : (rw' d).set i (.agg [.int .u64 x.id, .int .u64 x.d]) = rw' (d.setIfInBounds i x) := by
  unfold rw'
  rw [Array.toList_setIfInBounds, List.map_set]
  rfl
theorem size_set (d : Array Hit) (i : Nat) (x : Hit) : (d.setIfInBounds i x).size = d.size := by simp
theorem rw_set_at {d : Array Hit} {i j : Nat} {x : Hit} (hj : j < d.size) : ∃ u w : Int, ((rw' d).set i (.agg [.int .u64 x.id, .int .u64 x.d]))[j]? = some (.agg [.int .u64 u, .int .u64 w]) := by
  rw [rw_set, rw_at (by simpa using hj)]
  exact ⟨_, _, rfl⟩
theorem rw_swp (d : Array Hit) (i j : Nat) : ((rw' d).set i (.agg [.int .u64 (d[j]!).id, .int .u64 (d[j]!).d])).set j (.agg [.int .u64 (d[i]!).id, .int .u64 (d[i]!).d]) = rw' (swp d i j) := by
  rw [rw_set, rw_set]
  rfl

theorem At.swp {σ σ0 : Sto} {id : Nat} {d : Array Hit} (h : At σ σ0 id d) (i j : Nat) :
    At (upd (upd σ id (some (.row 2 ((rw' d).set i (.agg [.int .u64 (d[j]!).id, .int .u64 (d[j]!).d]))))) id
      (some (.row 2 (((rw' d).set i (.agg [.int .u64 (d[j]!).id, .int .u64 (d[j]!).d])).set j (.agg [.int .u64 (d[i]!).id, .int .u64 (d[i]!).d]))))) σ0 id (swp d i j) := by
  refine ⟨?_, fun k hk => ?_⟩
  · simp only [upd, if_true, rw_swp]
  · simp only [upd, hk, if_false, h.2 k hk]
theorem At.refl {σ : Sto} {id : Nat} {d : Array Hit} (h : σ id = some (.row 2 (rw' d))) : At σ σ id d := ⟨h, fun _ _ => rfl⟩

theorem insIn_lt {lt : Hit → Hit → Bool} {a j : Nat} {d : Array Hit} (h : a < j + 1) (hl : lt d[j + 1]! d[j]! = true) : insInner lt a (j + 1) d = insInner lt a j (Go.Sort.swp d (j + 1) j) := by
  rw [insInner]; simp [h, hl]
theorem insIn_stop {lt : Hit → Hit → Bool} {a j : Nat} {d : Array Hit} (h : j ≤ a ∨ (0 < j ∧ lt d[j]! d[j - 1]! = false)) : insInner lt a j d = d := by
  cases j with
  | zero => rfl
  | succ j =>
    rw [insInner]
    rcases h with h | h
    · have : ¬ a < j + 1 := by omega
      simp [this]
    · simp only [Nat.add_sub_cancel] at h
      simp [h.2]

theorem raw93 (d : Array Hit) (a b id n : Nat) (σ : Sto) (hab : a ≤ b) (hb : b ≤ d.size) (hn : d.size < 1000000) (hσ : σ id = some (.row 2 (rw' d))) {Q : V → Sto → Nat → Prop}
    (hQ : ∀ σ', At σ' σ id (insertionSort ahead d a b) → Q .undef σ' n) :
    run T (.raw 93 [.ref id 0 d.size 2, .int .i64 (a : Int), .int .i64 (b : Int), .fn 24 []] σ n 0) (memQ Q) := by
  refine run_rawE (fn := g93) rfl rfl ?_
  simp only [g93, b93]
  have w1 : IntKind.i64.wrap ((a : Int) + 1) = ((a + 1 : Nat) : Int) := by rw [wrap_i64] <;> omega
  generalize hsz : d.size = N at *
  simp +contextual -implicitDefEqProofs (maxSteps := 2000000) only [↓wP, wQ, wQ1, wQ2, wQ3, wR, boxE, partsOf, ↓reduceIte, Nat.reduceEqDiff, Nat.reduceAdd, Nat.reduceSub, Nat.reduceLeDiff, Nat.reduceLT, Nat.reduceMul, reduceCtorEq, Int.reduceBNe, Int.reduceBEq, Int.reduceLT, Int.reduceLE, Int.reduceGT, w1]
  refine WC_loopI 0 (fun (s : Nat × Array Hit) env σ' n' => n' = n ∧ env 0 = .ref id 0 N 2 ∧ env 1 = .int .i64 (a : Int) ∧ env 2 = .int .i64 (b : Int) ∧ env 3 = .fn 24 [] ∧ env 8 = .int .i64 (s.1 : Int) ∧
      a < s.1 ∧ (s.1 ≤ b ∨ s.1 = a + 1) ∧ s.2.size = N ∧ At σ' σ id s.2 ∧ insOuter ahead a b s.1 s.2 = insertionSort ahead d a b) (fun s => b + 1 - s.1) ?_ (a + 1, d) _ _ _ ?_
  · intro ⟨i, e⟩ env σ1 n1 ⟨h1, h2, h3, h4, h5, h6, h7, h8, h9, h10, h11⟩
    subst h1
    simp only at h6 h7 h8 h9 h10 h11
    by_cases hlt : i < b
    · have w2 : IntKind.i64.wrap ((i : Int) + 1) = ((i + 1 : Nat) : Int) := by rw [wrap_i64] <;> omega
      have hlt' : (i : Int) < (b : Int) := by omega
      rw [insOuter, if_pos hlt] at h11
      simp +contextual -implicitDefEqProofs (maxSteps := 2000000) only [↓wP, wQ, wQ1, wQ2, wQ3, wR, boxE, partsOf, ↓reduceIte, Nat.reduceEqDiff, Nat.reduceAdd, Nat.reduceSub, Nat.reduceLeDiff, Nat.reduceLT, Nat.reduceMul, reduceCtorEq, Int.reduceBNe, Int.reduceBEq, Int.reduceLT, Int.reduceLE, Int.reduceGT, h2, h3, h4, h5, h6, hlt']
      refine WC_loopI 0 (fun (s : Nat × Array Hit) env σ' n' => n' = n1 ∧ env 0 = .ref id 0 N 2 ∧ env 1 = .int .i64 (a : Int) ∧ env 2 = .int .i64 (b : Int) ∧ env 3 = .fn 24 [] ∧ env 8 = .int .i64 (i : Int) ∧ env 9 = .int .i64 (s.1 : Int) ∧
          s.1 ≤ i ∧ s.2.size = N ∧ At σ' σ id s.2 ∧ insInner ahead a s.1 s.2 = insInner ahead a i e) (fun s => s.1) ?_ (i, e) _ _ _ ?_
      · clear h2 h3 h4 h5 h6 h10
        intro ⟨j, g⟩ env σ2 n2 ⟨k1, k2, k3, k4, k5, k6, k7, k8, k9, k10, k11⟩
        subst k1
        simp only at k7 k8 k9 k10 k11
        have hat := k10.1
        by_cases hja : a < j
        · obtain ⟨j, rfl⟩ : ∃ j', j = j' + 1 := ⟨j - 1, by omega⟩
          have hja' : (a : Int) < ((j + 1 : Nat) : Int) := by omega
          have w3 : IntKind.i64.wrap (((j + 1 : Nat) : Int) - 1) = (j : Int) := by rw [wrap_i64] <;> omega
          have x1 := rw_at (d := g) (i := j + 1) (by omega)
          have x2 := rw_at (d := g) (i := j) (by omega)
          have l1 : j + 1 < N := by omega
          have l2 : j < N := by omega
          by_cases hc : cmpH g[j + 1]! g[j]! < 0
          · have hah : ahead g[j + 1]! g[j]! = true := by rw [← cmp_lt]; simpa using hc
            obtain ⟨u, v, x3⟩ := rw_set_at (d := g) (i := j + 1) (j := j) (x := g[j]!) (by omega)
            simp +contextual -implicitDefEqProofs (maxSteps := 2000000) only [↓wP, wQ, wQ1, wQ2, wQ3, wR, boxE, partsOf, ↓reduceIte, Nat.reduceEqDiff, Nat.reduceAdd, Nat.reduceSub, Nat.reduceLeDiff, Nat.reduceLT, Nat.reduceMul, reduceCtorEq, Int.reduceBNe, Int.reduceBEq, Int.reduceLT, Int.reduceLE, Int.reduceGT, k2, k3, k4, k5, k6, k7, hja', w3, hat, l1, l2, x1, x2, x3, f24, hc]
            refine ⟨(j, swp g (j + 1) j), by dsimp only; omega, rfl, by dsimp only; omega, by rw [swp_size, k9], k10.swp _ _, ?_⟩
            dsimp only
            rw [← insIn_lt hja hah]
            exact k11
          · have hah : ahead g[j + 1]! g[j]! = false := by rw [← cmp_lt]; simpa using hc
            simp +contextual -implicitDefEqProofs (maxSteps := 2000000) only [↓wP, wQ, wQ1, wQ2, wQ3, wR, boxE, partsOf, ↓reduceIte, Nat.reduceEqDiff, Nat.reduceAdd, Nat.reduceSub, Nat.reduceLeDiff, Nat.reduceLT, Nat.reduceMul, reduceCtorEq, Int.reduceBNe, Int.reduceBEq, Int.reduceLT, Int.reduceLE, Int.reduceGT, k2, k3, k4, k5, k6, k7, hja', w3, hat, l1, l2, x1, x2, f24, hc, w2]
            refine ⟨(i + 1, g), by dsimp only; omega, rfl, by dsimp only; omega, by dsimp only; omega, k9, k10, ?_⟩
            dsimp only
            rw [insIn_stop (.inr ⟨by omega, hah⟩)] at k11
            rw [k11]
            exact h11
        · have hja' : ¬ (a : Int) < (j : Int) := by omega
          simp +contextual -implicitDefEqProofs (maxSteps := 2000000) only [↓wP, wQ, wQ1, wQ2, wQ3, wR, boxE, partsOf, ↓reduceIte, Nat.reduceEqDiff, Nat.reduceAdd, Nat.reduceSub, Nat.reduceLeDiff, Nat.reduceLT, Nat.reduceMul, reduceCtorEq, Int.reduceBNe, Int.reduceBEq, Int.reduceLT, Int.reduceLE, Int.reduceGT, k2, k3, k4, k5, k6, k7, hja', w2]
          refine ⟨(i + 1, g), by dsimp only; omega, rfl, by dsimp only; omega, by dsimp only; omega, k9, k10, ?_⟩
          dsimp only
          rw [insIn_stop (.inl (by omega))] at k11
          rw [k11]
          exact h11
      · simp +contextual -implicitDefEqProofs (maxSteps := 2000000) only [↓wP, wQ, wQ1, wQ2, wQ3, wR, boxE, partsOf, ↓reduceIte, Nat.reduceEqDiff, Nat.reduceAdd, Nat.reduceSub, Nat.reduceLeDiff, Nat.reduceLT, Nat.reduceMul, reduceCtorEq, Int.reduceBNe, Int.reduceBEq, Int.reduceLT, Int.reduceLE, Int.reduceGT, h2, h3, h4, h5, h6]
        exact ⟨h9, h10⟩
    · have hlt' : ¬ (i : Int) < (b : Int) := by omega
      rw [insOuter, if_neg hlt] at h11
      simp +contextual -implicitDefEqProofs (maxSteps := 2000000) only [↓wP, wQ, wQ1, wQ2, wQ3, wR, boxE, partsOf, ↓reduceIte, Nat.reduceEqDiff, Nat.reduceAdd, Nat.reduceSub, Nat.reduceLeDiff, Nat.reduceLT, Nat.reduceMul, reduceCtorEq, Int.reduceBNe, Int.reduceBEq, Int.reduceLT, Int.reduceLE, Int.reduceGT, h2, h3, h4, h5, h6, hlt']
      refine hQ _ ?_
      rw [← h11]
      exact h10
  · simp +contextual -implicitDefEqProofs (maxSteps := 2000000) only [↓wP, wQ, wQ1, wQ2, wQ3, wR, boxE, partsOf, ↓reduceIte, Nat.reduceEqDiff, Nat.reduceAdd, Nat.reduceSub, Nat.reduceLeDiff, Nat.reduceLT, Nat.reduceMul, reduceCtorEq, Int.reduceBNe, Int.reduceBEq, Int.reduceLT, Int.reduceLE, Int.reduceGT]
    exact ⟨by omega, .inr trivial, hsz, At.refl hσ, rfl⟩

theorem raw97 (d : Array Hit) (a b id n : Nat) (σ : Sto) (hab : a < b) (hb : b ≤ d.size) (hn : d.size < 1000000) (hσ : σ id = some (.row 2 (rw' d))) {Q : V → Sto → Nat → Prop}
    (hQ : ∀ σ' d', At σ' σ id d' → PermIn a b d d' → Q .undef σ' n) :
    run T (.raw 97 [.ref id 0 d.size 2, .int .i64 (a : Int), .int .i64 (b : Int), .fn 24 []] σ n 0) (memQ Q) := by
  refine run_rawE (fn := g97) rfl rfl ?_
  simp only [g97, b97]
  have w1 : IntKind.i64.wrap ((b : Int) - 1) = ((b - 1 : Nat) : Int) := by rw [wrap_i64] <;> omega
  have hp : ∀ d' : Array Hit, PermIn a b d d' → d'.size = d.size := fun d' h => h.1
  generalize hsz : d.size = N at *
  simp +contextual -implicitDefEqProofs (maxSteps := 2000000) only [↓wP, wQ, wQ1, wQ2, wQ3, wR, boxE, partsOf, ↓reduceIte, Nat.reduceEqDiff, Nat.reduceAdd, Nat.reduceSub, Nat.reduceLeDiff, Nat.reduceLT, Nat.reduceMul, reduceCtorEq, Int.reduceBNe, Int.reduceBEq, Int.reduceLT, Int.reduceLE, Int.reduceGT, w1]
  refine WC_loopI 0 (fun (s : (Nat × Nat) × Array Hit) env σ' n' => n' = n ∧ env 0 = .ref id 0 N 2 ∧ env 8 = .int .i64 (s.1.1 : Int) ∧ env 9 = .int .i64 (s.1.2 : Int) ∧
      a ≤ s.1.1 ∧ s.1.2 < b ∧ At σ' σ id s.2 ∧ PermIn a b d s.2) (fun s => s.1.2) ?_ ((a, b - 1), d) _ _ _ ?_
  · intro ⟨⟨i, j⟩, e⟩ env σ1 n1 ⟨h1, h2, h3, h4, h5, h6, h7, h8⟩
    subst h1
    simp only at h3 h4 h5 h6 h7 h8
    by_cases hlt : i < j
    · obtain ⟨j, rfl⟩ : ∃ j', j = j' + 1 := ⟨j - 1, by omega⟩
      have hlt' : (i : Int) < ((j + 1 : Nat) : Int) := by omega
      have w2 : IntKind.i64.wrap ((i : Int) + 1) = ((i + 1 : Nat) : Int) := by rw [wrap_i64] <;> omega
      have w3 : IntKind.i64.wrap (((j + 1 : Nat) : Int) - 1) = (j : Int) := by rw [wrap_i64] <;> omega
      have he := hp e h8
      have x1 := rw_at (d := e) (i := i) (by omega)
      have x2 := rw_at (d := e) (i := j + 1) (by omega)
      obtain ⟨u, v, x3⟩ := rw_set_at (d := e) (i := i) (j := j + 1) (x := e[j + 1]!) (by omega)
      have l1 : i < N := by omega
      have l2 : j + 1 < N := by omega
      have hat := h7.1
      simp +contextual -implicitDefEqProofs (maxSteps := 2000000) only [↓wP, wQ, wQ1, wQ2, wQ3, wR, boxE, partsOf, ↓reduceIte, Nat.reduceEqDiff, Nat.reduceAdd, Nat.reduceSub, Nat.reduceLeDiff, Nat.reduceLT, Nat.reduceMul, reduceCtorEq, Int.reduceBNe, Int.reduceBEq, Int.reduceLT, Int.reduceLE, Int.reduceGT, h2, h3, h4, hlt', w2, w3, x1, x2, x3, l1, l2, hat]
      refine ⟨((i + 1, j), swp e i (j + 1)), by dsimp only; omega, rfl, rfl, by dsimp only; omega, by dsimp only; omega, h7.swp _ _, ?_⟩
      exact permIn_trans _ _ _ _ _ h8 (swp_permIn e a b i (j + 1) h5 (by omega) (by omega) h6 (by omega))
    · have hlt' : ¬ (i : Int) < (j : Int) := by omega
      simp +contextual -implicitDefEqProofs (maxSteps := 2000000) only [↓wP, wQ, wQ1, wQ2, wQ3, wR, boxE, partsOf, ↓reduceIte, Nat.reduceEqDiff, Nat.reduceAdd, Nat.reduceSub, Nat.reduceLeDiff, Nat.reduceLT, Nat.reduceMul, reduceCtorEq, Int.reduceBNe, Int.reduceBEq, Int.reduceLT, Int.reduceLE, Int.reduceGT, h2, h3, h4, hlt']
      exact hQ _ _ h7 h8
  · simp +contextual -implicitDefEqProofs (maxSteps := 2000000) only [↓wP, wQ, wQ1, wQ2, wQ3, wR, boxE, partsOf, ↓reduceIte, Nat.reduceEqDiff, Nat.reduceAdd, Nat.reduceSub, Nat.reduceLeDiff, Nat.reduceLT, Nat.reduceMul, reduceCtorEq, Int.reduceBNe, Int.reduceBEq, Int.reduceLT, Int.reduceLE, Int.reduceGT]
    exact ⟨by omega, At.refl hσ, permIn_refl _ _ _⟩

theorem bin_shl (k : IntKind) (x : Int) (m : Nat) : ∃ y, binV .shl (.int k x) (.int .u64 (m : Int)) = some (.int k y) := by
  refine ⟨k.wrap (x * 2 ^ (min (m : Int).toNat k.bits)), ?_⟩
  have : ¬ ((m : Int) < 0) := by omega
  simp [binV, pureV, Go.binOp, Op.shift, this]
  rfl
theorem bin_shr (k : IntKind) (x : Int) (m : Nat) : ∃ y, binV .shr (.int k x) (.int .u64 (m : Int)) = some (.int k y) := by
  refine ⟨x.fdiv (2 ^ (min (m : Int).toNat k.bits)), ?_⟩
  have : ¬ ((m : Int) < 0) := by omega
  simp [binV, pureV, Go.binOp, Op.shift, this]
  rfl
theorem bin_and64 (x : Int) (m : Nat) (hm : m < 18446744073709551616) : ∃ y : Nat, y ≤ m ∧ binV .and (.int .u64 x) (.int .u64 (m : Int)) = some (.int .u64 (y : Int)) := by
  have hle : (BitVec.ofInt 64 x &&& BitVec.ofInt 64 (m : Int)).toNat ≤ m := by
    rw [BitVec.toNat_and]
    refine Nat.le_trans Nat.and_le_right ?_
    simp
    exact Nat.mod_le _ _
  refine ⟨(BitVec.ofInt 64 x &&& BitVec.ofInt 64 (m : Int)).toNat, hle, ?_⟩
  have hw : IntKind.u64.wrap ((BitVec.ofInt 64 x &&& BitVec.ofInt 64 (m : Int)).toNat : Int) = ((BitVec.ofInt 64 x &&& BitVec.ofInt 64 (m : Int)).toNat : Int) := by rw [wrap_u64] <;> omega
  have := bin_and .u64 x (m : Int)
  rw [this]
  congr 2

theorem raw108 (r : Int) (sid n : Nat) (σ : Sto) (hs : σ sid = some (.row 1 [.int .u64 r])) {Q : V → Sto → Nat → Prop}
    (hQ : ∀ (r' : Int) (σ' : Sto), σ' sid = some (.row 1 [.int .u64 r']) → (∀ i, i ≠ sid → σ' i = σ i) → Q (.int .u64 r') σ' n) :
    run T (.raw 108 [.ptr sid 1 0 0] σ n 0) (memQ Q) := by
  refine run_rawE (fn := g108) rfl rfl ?_
  simp only [g108, b108]
  obtain ⟨y1, e1⟩ := bin_shl .u64 r 13
  have x1 := bin_xor .u64 r y1
  generalize IntKind.u64.wrap ↑(BitVec.ofInt IntKind.u64.bits r ^^^ BitVec.ofInt IntKind.u64.bits y1).toNat = r1 at x1
  obtain ⟨y2, e2⟩ := bin_shr .u64 r1 7
  have x2 := bin_xor .u64 r1 y2
  generalize IntKind.u64.wrap ↑(BitVec.ofInt IntKind.u64.bits r1 ^^^ BitVec.ofInt IntKind.u64.bits y2).toNat = r2 at x2
  obtain ⟨y3, e3⟩ := bin_shl .u64 r2 17
  have x3 := bin_xor .u64 r2 y3
  generalize IntKind.u64.wrap ↑(BitVec.ofInt IntKind.u64.bits r2 ^^^ BitVec.ofInt IntKind.u64.bits y3).toNat = r3 at x3
  simp only [show ((13 : Nat) : Int) = 13 from rfl, show ((7 : Nat) : Int) = 7 from rfl, show ((17 : Nat) : Int) = 17 from rfl] at e1 e2 e3
  simp +contextual -implicitDefEqProofs (maxSteps := 2000000) only [↓wP, wQ, wQ1, wQ2, wQ3, wR, boxE, partsOf, ↓reduceIte, Nat.reduceEqDiff, Nat.reduceAdd, Nat.reduceSub, Nat.reduceLeDiff, Nat.reduceLT, Nat.reduceMul, reduceCtorEq, Int.reduceBNe, Int.reduceBEq, Int.reduceLT, Int.reduceLE, Int.reduceGT, hs, e1, x1, e2, x2, e3, x3]
  exact hQ _ _ (by simp [upd]) (fun i hi => by simp [upd, hi])

def chk107 (m : Nat) : Bool := match exJob T 60 (.pure 107 [.int .i64 (m : Int)]) with
  | some (.val (.int .u64 M)) => decide (0 < M ∧ M ≤ 2 * (m : Int))
  | _ => false
theorem all107 : (List.range 60).all (fun m => decide (m < 8) || chk107 m) = true := by decide +kernel
theorem r107 (m : Nat) (h8 : 8 ≤ m) (h60 : m < 60) : ∃ M : Nat, 0 < M ∧ M ≤ 2 * m ∧ res T 107 [.int .i64 (m : Int)] = some (.int .u64 (M : Int)) := by
  have h := List.all_eq_true.1 all107 m (List.mem_range.2 h60)
  have h8' : ¬ m < 8 := by omega
  simp only [h8', decide_false, Bool.false_or] at h
  unfold chk107 at h
  split at h
  · rename_i M hM
    simp only [decide_eq_true_eq] at h
    refine ⟨M.toNat, by omega, by omega, ?_⟩
    rw [show ((M.toNat : Nat) : Int) = M by omega]
    exact run_res (exJob_sound 60 _ _ hM)
  · cases h

theorem raw95 (d : Array Hit) (a b id n : Nat) (σ : Sto) (h8 : 8 ≤ b - a) (h60 : b - a < 60) (hb : b ≤ d.size) (hn : d.size < 1000000) (hid : id < n) (hσ : σ id = some (.row 2 (rw' d))) {Q : V → Sto → Nat → Prop}
    (hQ : ∀ σ' d' n', n ≤ n' → σ' id = some (.row 2 (rw' d')) → (∀ i, i ≠ id → i < n → σ' i = σ i) → PermIn a b d d' → Q .undef σ' n') :
    run T (.raw 95 [.ref id 0 d.size 2, .int .i64 (a : Int), .int .i64 (b : Int), .fn 24 []] σ n 0) (memQ Q) := by
  refine run_rawE (fn := g95) rfl rfl ?_
  simp only [g95, b95]
  have hp : ∀ d' : Array Hit, PermIn a b d d' → d'.size = d.size := fun d' h => h.1
  obtain ⟨L, hL⟩ : ∃ L, L = b - a := ⟨_, rfl⟩
  have w1 : IntKind.i64.wrap ((b : Int) - (a : Int)) = (L : Int) := by rw [wrap_i64] <;> omega
  have c8 : (8 : Int) ≤ (L : Int) := by omega
  obtain ⟨M, hM1, hM2, hM⟩ := r107 L (by omega) (by omega)
  have f107 := callE_tr (fs := true) (by decide) hM (by simp [Tr]) rfl
  have q4 := bin_quo4 L (by omega)
  have wu : IntKind.u64.wrap (L : Int) = (L : Int) := by rw [wrap_u64] <;> omega
  have w2 : IntKind.i64.wrap (((L / 4 : Nat) : Int) * 2) = ((L / 4 * 2 : Nat) : Int) := by rw [wrap_i64] <;> omega
  obtain ⟨t, ht⟩ : ∃ t, t = a + L / 4 * 2 := ⟨_, rfl⟩
  have w3 : IntKind.i64.wrap ((a : Int) + ((L / 4 * 2 : Nat) : Int)) = (t : Int) := by rw [wrap_i64] <;> omega
  have w4 : IntKind.i64.wrap ((t : Int) - 1) = ((t - 1 : Nat) : Int) := by rw [wrap_i64] <;> omega
  have w5 : IntKind.i64.wrap ((t : Int) + 1) = ((t + 1 : Nat) : Int) := by rw [wrap_i64] <;> omega
  have wm : IntKind.u64.wrap ((M : Int) - 1) = ((M - 1 : Nat) : Int) := by rw [wrap_u64] <;> omega
  have hidn : (id = n) = False := by simp; omega
  generalize hsz : d.size = N at *
  simp +contextual -implicitDefEqProofs (maxSteps := 2000000) only [↓wP, wQ, wQ1, wQ2, wQ3, wR, boxE, partsOf, ↓reduceIte, Nat.reduceEqDiff, Nat.reduceAdd, Nat.reduceSub, Nat.reduceLeDiff, Nat.reduceLT, Nat.reduceMul, reduceCtorEq, Int.reduceBNe, Int.reduceBEq, Int.reduceLT, Int.reduceLE, Int.reduceGT, w1, c8, wu, f107, q4, w2, w3, w4, w5]
  refine WC_loopI 0 (fun (s : Nat × (Array Hit × Int)) env σ' n' => n' = n + 1 ∧ env 0 = .ref id 0 N 2 ∧ env 1 = .int .i64 (a : Int) ∧ env 8 = .int .i64 (L : Int) ∧ env 9 = .ptr n 1 0 0 ∧ env 10 = .int .u64 (M : Int) ∧ env 11 = .int .i64 (s.1 : Int) ∧
      a ≤ s.1 ∧ s.1 ≤ t + 2 ∧ σ' id = some (.row 2 (rw' s.2.1)) ∧ σ' n = some (.row 1 [.int .u64 s.2.2]) ∧ (∀ i, i ≠ id → i < n → σ' i = σ i) ∧ PermIn a b d s.2.1) (fun s => t + 3 - s.1) ?_ (t - 1, (d, (L : Int))) _ _ _ ?_
  · intro ⟨i, e, r⟩ env σ1 n1 ⟨h1, h2, h3, h4, h5, h6, h7, h8', h9, h10, h11, h12, h13⟩
    subst h1
    simp only at h7 h8' h9 h10 h11 h13
    have he := hp e h13
    by_cases hlt : i ≤ t + 1
    · have hlt' : (i : Int) ≤ ((t + 1 : Nat) : Int) := by omega
      have wi : IntKind.i64.wrap ((i : Int) + 1) = ((i + 1 : Nat) : Int) := by rw [wrap_i64] <;> omega
      simp +contextual -implicitDefEqProofs (maxSteps := 2000000) only [↓wP, wQ, wQ1, wQ2, wQ3, wR, boxE, partsOf, ↓reduceIte, Nat.reduceEqDiff, Nat.reduceAdd, Nat.reduceSub, Nat.reduceLeDiff, Nat.reduceLT, Nat.reduceMul, reduceCtorEq, Int.reduceBNe, Int.reduceBEq, Int.reduceLT, Int.reduceLE, Int.reduceGT, h2, h3, h4, h5, h6, h7, q4, w2, w3, w5, hlt']
      refine stepW_raw (by decide) (raw108 r n (n + 1) σ1 h11 fun r' σ2 g1 g2 => ?_)
      obtain ⟨y, hy, ey⟩ := bin_and64 r' (M - 1) (by omega)
      have hg : σ2 id = some (.row 2 (rw' e)) := by rw [g2 id (by omega), h10]
      have wy : IntKind.i64.wrap (y : Int) = (y : Int) := by rw [wrap_i64] <;> omega
      have x1 := rw_at (d := e) (i := i) (by omega)
      have l1 : i < N := by omega
      by_cases hge : L ≤ y
      · have hge' : (L : Int) ≤ (y : Int) := by omega
        have wd : IntKind.i64.wrap ((y : Int) - (L : Int)) = ((y - L : Nat) : Int) := by rw [wrap_i64] <;> omega
        have wa : IntKind.i64.wrap ((a : Int) + ((y - L : Nat) : Int)) = ((a + (y - L) : Nat) : Int) := by rw [wrap_i64] <;> omega
        have x2 := rw_at (d := e) (i := a + (y - L)) (by omega)
        have l2 : a + (y - L) < N := by omega
        obtain ⟨u, v, x3⟩ := rw_set_at (d := e) (i := i) (j := a + (y - L)) (x := e[a + (y - L)]!) (by omega)
        simp +contextual -implicitDefEqProofs (maxSteps := 2000000) only [↓wP, wQ, wQ1, wQ2, wQ3, wR, boxE, partsOf, ↓reduceIte, Nat.reduceEqDiff, Nat.reduceAdd, Nat.reduceSub, Nat.reduceLeDiff, Nat.reduceLT, Nat.reduceMul, reduceCtorEq, Int.reduceBNe, Int.reduceBEq, Int.reduceLT, Int.reduceLE, Int.reduceGT, h2, h3, h4, h5, h6, h7, wm, ey, wy, hge', wd, wa, hg, x1, x2, x3, l1, l2, wi, hidn]
        refine ⟨(i + 1, (swp e i (a + (y - L)), r')), by dsimp only; omega, rfl, by dsimp only; omega, by dsimp only; omega, ?_, ?_, ?_, ?_⟩
        · dsimp only; rw [rw_swp]
        · have a1 : n ≠ id := by omega
          simp only [a1, if_false]; exact g1
        · intro k hk hkn
          rw [g2 k (by omega), h12 k hk hkn]
        · exact permIn_trans _ _ _ _ _ h13 (swp_permIn e a b i (a + (y - L)) h8' (by omega) (by omega) (by omega) (by omega))
      · have hge' : ¬ (L : Int) ≤ (y : Int) := by omega
        have wa : IntKind.i64.wrap ((a : Int) + (y : Int)) = ((a + y : Nat) : Int) := by rw [wrap_i64] <;> omega
        have x2 := rw_at (d := e) (i := a + y) (by omega)
        have l2 : a + y < N := by omega
        obtain ⟨u, v, x3⟩ := rw_set_at (d := e) (i := i) (j := a + y) (x := e[a + y]!) (by omega)
        simp +contextual -implicitDefEqProofs (maxSteps := 2000000) only [↓wP, wQ, wQ1, wQ2, wQ3, wR, boxE, partsOf, ↓reduceIte, Nat.reduceEqDiff, Nat.reduceAdd, Nat.reduceSub, Nat.reduceLeDiff, Nat.reduceLT, Nat.reduceMul, reduceCtorEq, Int.reduceBNe, Int.reduceBEq, Int.reduceLT, Int.reduceLE, Int.reduceGT, h2, h3, h4, h5, h6, h7, wm, ey, wy, hge', wa, hg, x1, x2, x3, l1, l2, wi, hidn]
        refine ⟨(i + 1, (swp e i (a + y), r')), by dsimp only; omega, rfl, by dsimp only; omega, by dsimp only; omega, ?_, ?_, ?_, ?_⟩
        · dsimp only; rw [rw_swp]
        · have a1 : n ≠ id := by omega
          simp only [a1, if_false]; exact g1
        · intro k hk hkn
          rw [g2 k (by omega), h12 k hk hkn]
        · exact permIn_trans _ _ _ _ _ h13 (swp_permIn e a b i (a + y) h8' (by omega) (by omega) (by omega) (by omega))
    · have hlt' : ¬ (i : Int) ≤ ((t + 1 : Nat) : Int) := by omega
      simp +contextual -implicitDefEqProofs (maxSteps := 2000000) only [↓wP, wQ, wQ1, wQ2, wQ3, wR, boxE, partsOf, ↓reduceIte, Nat.reduceEqDiff, Nat.reduceAdd, Nat.reduceSub, Nat.reduceLeDiff, Nat.reduceLT, Nat.reduceMul, reduceCtorEq, Int.reduceBNe, Int.reduceBEq, Int.reduceLT, Int.reduceLE, Int.reduceGT, h2, h3, h4, h5, h6, h7, q4, w2, w3, w5, hlt']
      exact hQ _ e _ (by omega) h10 h12 h13
  · simp +contextual -implicitDefEqProofs (maxSteps := 2000000) only [↓wP, wQ, wQ1, wQ2, wQ3, wR, boxE, partsOf, ↓reduceIte, Nat.reduceEqDiff, Nat.reduceAdd, Nat.reduceSub, Nat.reduceLeDiff, Nat.reduceLT, Nat.reduceMul, reduceCtorEq, Int.reduceBNe, Int.reduceBEq, Int.reduceLT, Int.reduceLE, Int.reduceGT, hidn]
    refine ⟨by omega, by omega, hσ, fun i h1 h2 => ?_, permIn_refl _ _ _⟩
    have a1 : i ≠ n := by omega
    simp only [a1, if_false]

/-- A part of fewer than fifty is either in order, or stays. -/
theorem raw98 (d : Array Hit) (a b id n : Nat) (σ : Sto) (hS : SWO ahead) (hab : a < b) (h50 : b - a < 50) (hb : b ≤ d.size) (hn : d.size < 1000000) (hσ : σ id = some (.row 2 (rw' d))) {Q : V → Sto → Nat → Prop}
    (hQ : ∀ r : Bool, (r = true → SortedIn ahead a b d) → Q (.bool r) σ n) :
    run T (.raw 98 [.ref id 0 d.size 2, .int .i64 (a : Int), .int .i64 (b : Int), .fn 24 []] σ n 0) (memQ Q) := by
  refine run_rawE (fn := g98) rfl rfl ?_
  simp only [g98, b98]
  have w1 : IntKind.i64.wrap ((a : Int) + 1) = ((a + 1 : Nat) : Int) := by rw [wrap_i64] <;> omega
  have w2 : IntKind.i64.wrap ((b : Int) - (a : Int)) = ((b - a : Nat) : Int) := by rw [wrap_i64] <;> omega
  have c50 : ((b - a : Nat) : Int) < 50 := by omega
  generalize hsz : d.size = N at *
  simp +contextual -implicitDefEqProofs (maxSteps := 2000000) only [↓wP, wQ, wQ1, wQ2, wQ3, wR, boxE, partsOf, ↓reduceIte, Nat.reduceEqDiff, Nat.reduceAdd, Nat.reduceSub, Nat.reduceLeDiff, Nat.reduceLT, Nat.reduceMul, reduceCtorEq, Int.reduceBNe, Int.reduceBEq, Int.reduceLT, Int.reduceLE, Int.reduceGT, w1]
  refine WC_loopI 0 (fun (s : Nat) env σ' n' => σ' = σ ∧ n' = n ∧ env 0 = .ref id 0 N 2 ∧ env 1 = .int .i64 (a : Int) ∧ env 2 = .int .i64 (b : Int) ∧ env 3 = .fn 24 [] ∧ env 9 = .int .i64 ((a + 1 : Nat) : Int) ∧ env 10 = .int .i64 0) (fun s => s) ?_ 0 _ _ _ ?_
  · intro _ env σ1 n1 ⟨h1, h2, h3, h4, h5, h6, h7, h8⟩
    subst h1 h2
    simp +contextual -implicitDefEqProofs (maxSteps := 2000000) only [↓wP, wQ, wQ1, wQ2, wQ3, wR, boxE, partsOf, ↓reduceIte, Nat.reduceEqDiff, Nat.reduceAdd, Nat.reduceSub, Nat.reduceLeDiff, Nat.reduceLT, Nat.reduceMul, reduceCtorEq, Int.reduceBNe, Int.reduceBEq, Int.reduceLT, Int.reduceLE, Int.reduceGT, h3, h4, h5, h6, h7, h8]
    refine WC_loopI 0 (fun (i : Nat) env σ' n' => σ' = σ1 ∧ n' = n1 ∧ env 0 = .ref id 0 N 2 ∧ env 1 = .int .i64 (a : Int) ∧ env 2 = .int .i64 (b : Int) ∧ env 3 = .fn 24 [] ∧ env 9 = .int .i64 (i : Int) ∧
        a < i ∧ i ≤ b ∧ SortedIn ahead a i d) (fun i => b - i) ?_ (a + 1) _ _ _ ?_
    · clear h3 h4 h5 h6 h7 h8
      intro i env σ2 n2 ⟨k1, k2, k3, k4, k5, k6, k7, k8, k9, k10⟩
      subst k1 k2
      by_cases hlt : i < b
      · have hlt' : (i : Int) < (b : Int) := by omega
        have w3 : IntKind.i64.wrap ((i : Int) - 1) = ((i - 1 : Nat) : Int) := by rw [wrap_i64] <;> omega
        have w4 : IntKind.i64.wrap ((i : Int) + 1) = ((i + 1 : Nat) : Int) := by rw [wrap_i64] <;> omega
        have x1 := rw_at (d := d) (i := i) (by omega)
        have x2 := rw_at (d := d) (i := i - 1) (by omega)
        have l1 : i < N := by omega
        have l2 : i - 1 < N := by omega
        by_cases hc : cmpH d[i]! d[i - 1]! < 0
        · have he : ((i : Int) == (b : Int)) = false := by simp; omega
          simp +contextual -implicitDefEqProofs (maxSteps := 2000000) only [↓wP, wQ, wQ1, wQ2, wQ3, wR, boxE, partsOf, ↓reduceIte, Nat.reduceEqDiff, Nat.reduceAdd, Nat.reduceSub, Nat.reduceLeDiff, Nat.reduceLT, Nat.reduceMul, reduceCtorEq, Int.reduceBNe, Int.reduceBEq, Int.reduceLT, Int.reduceLE, Int.reduceGT, k3, k4, k5, k6, k7, hlt', w2, w3, w4, x1, x2, l1, l2, hσ, f24, hc, he, c50]
          exact hQ false (fun h => by cases h)
        · have hah : ahead d[i]! d[i - 1]! = false := by rw [← cmp_lt]; simpa using hc
          simp +contextual -implicitDefEqProofs (maxSteps := 2000000) only [↓wP, wQ, wQ1, wQ2, wQ3, wR, boxE, partsOf, ↓reduceIte, Nat.reduceEqDiff, Nat.reduceAdd, Nat.reduceSub, Nat.reduceLeDiff, Nat.reduceLT, Nat.reduceMul, reduceCtorEq, Int.reduceBNe, Int.reduceBEq, Int.reduceLT, Int.reduceLE, Int.reduceGT, k3, k4, k5, k6, k7, hlt', w2, w3, w4, x1, x2, l1, l2, hσ, f24, hc]
          exact ⟨i + 1, by omega, rfl, by omega, by omega, k10.snoc hS hah⟩
      · have hlt' : ¬ (i : Int) < (b : Int) := by omega
        have he : ((i : Int) == (b : Int)) = true := by simp; omega
        simp +contextual -implicitDefEqProofs (maxSteps := 2000000) only [↓wP, wQ, wQ1, wQ2, wQ3, wR, boxE, partsOf, ↓reduceIte, Nat.reduceEqDiff, Nat.reduceAdd, Nat.reduceSub, Nat.reduceLeDiff, Nat.reduceLT, Nat.reduceMul, reduceCtorEq, Int.reduceBNe, Int.reduceBEq, Int.reduceLT, Int.reduceLE, Int.reduceGT, k3, k4, k5, k6, k7, hlt', he]
        have e : i = b := by omega
        exact hQ true (fun _ => e ▸ k10)
    · simp +contextual -implicitDefEqProofs (maxSteps := 2000000) only [↓wP, wQ, wQ1, wQ2, wQ3, wR, boxE, partsOf, ↓reduceIte, Nat.reduceEqDiff, Nat.reduceAdd, Nat.reduceSub, Nat.reduceLeDiff, Nat.reduceLT, Nat.reduceMul, reduceCtorEq, Int.reduceBNe, Int.reduceBEq, Int.reduceLT, Int.reduceLE, Int.reduceGT, h3, h4, h5, h6, h7]
      exact ⟨by omega, by omega, fun p q h1 h2 h3 => by omega⟩
  · simp +contextual -implicitDefEqProofs (maxSteps := 2000000) only [↓wP, wQ, wQ1, wQ2, wQ3, wR, boxE, partsOf, ↓reduceIte, Nat.reduceEqDiff, Nat.reduceAdd, Nat.reduceSub, Nat.reduceLeDiff, Nat.reduceLT, Nat.reduceMul, reduceCtorEq, Int.reduceBNe, Int.reduceBEq, Int.reduceLT, Int.reduceLE, Int.reduceGT]

end Go.Q.S11
end

section
/- The partitions of a sort. -/
set_option linter.unusedSimpArgs false
set_option linter.unusedVariables false
namespace Go.Q.S11
open Go.Q Go.Sort

theorem su_go {p : Hit → Bool} {d : Array Hit} {i j : Nat} (h : i ≤ j) (hp : p d[i]! = true) : scanUp p d j (i + 1) = scanUp p d j i := by
  conv => rhs; rw [scanUp]
  rw [if_pos (by simp [h, hp])]
theorem su_stop {p : Hit → Bool} {d : Array Hit} {i j : Nat} (h : ¬ i ≤ j ∨ p d[i]! = false) : scanUp p d j i = i := by
  rw [scanUp]
  rcases h with h | h <;> simp [h]
theorem sd_go {p : Hit → Bool} {d : Array Hit} {i j : Nat} (h : i ≤ j + 1) (hp : p d[j + 1]! = true) : scanDown p d i j = scanDown p d i (j + 1) := by
  conv => rhs; rw [scanDown]
  rw [if_pos (by simp [h, hp])]
theorem sd_stop {p : Hit → Bool} {d : Array Hit} {i j : Nat} (h : ¬ i ≤ j ∨ p d[j]! = false) : scanDown p d i j = j := by
  cases j with
  | zero => rfl
  | succ j =>
    rw [scanDown]
    rcases h with h | h
    · simp [h]
    · simp [h]

theorem raw99 (d : Array Hit) (a b p id n : Nat) (σ : Sto) (hap : a ≤ p) (hpb : p < b) (hb : b ≤ d.size) (hn : d.size < 1000000) (hσ : σ id = some (.row 2 (rw' d))) {Q : V → Sto → Nat → Prop}
    (hQ : ∀ σ', At σ' σ id (partitionEqual ahead d a b p).2 → Q (.int .i64 ((partitionEqual ahead d a b p).1 : Int)) σ' n) :
    run T (.raw 99 [.ref id 0 d.size 2, .int .i64 (a : Int), .int .i64 (b : Int), .int .i64 (p : Int), .fn 24 []] σ n 0) (memQ Q) := by
  refine run_rawE (fn := g99) rfl rfl ?_
  simp only [g99, b99]
  have w1 : IntKind.i64.wrap ((a : Int) + 1) = ((a + 1 : Nat) : Int) := by rw [wrap_i64] <;> omega
  have w2 : IntKind.i64.wrap ((b : Int) - 1) = ((b - 1 : Nat) : Int) := by rw [wrap_i64] <;> omega
  have y1 := rw_at (d := d) (i := a) (by omega)
  have y2 := rw_at (d := d) (i := p) (by omega)
  obtain ⟨u, v, y3⟩ := rw_set_at (d := d) (i := a) (j := p) (x := d[p]!) (by omega)
  have hat0 := (At.refl hσ).swp a p
  have hs0 : (swp d a p).size = d.size := swp_size _ _ _
  unfold partitionEqual at hQ
  generalize hsz : d.size = N at *
  have m1 : a < N := by omega
  have m2 : p < N := by omega
  simp +contextual -implicitDefEqProofs (maxSteps := 2000000) only [↓wP, wQ, wQ1, wQ2, wQ3, wR, boxE, partsOf, ↓reduceIte, Nat.reduceEqDiff, Nat.reduceAdd, Nat.reduceSub, Nat.reduceLeDiff, Nat.reduceLT, Nat.reduceMul, reduceCtorEq, Int.reduceBNe, Int.reduceBEq, Int.reduceLT, Int.reduceLE, Int.reduceGT, w1, w2, y1, y2, y3, m1, m2, hσ]
  generalize (upd (upd σ id (some (.row 2 ((rw' d).set a (.agg [.int .u64 (d[p]!).id, .int .u64 (d[p]!).d]))))) id
      (some (.row 2 (((rw' d).set a (.agg [.int .u64 (d[p]!).id, .int .u64 (d[p]!).d])).set p (.agg [.int .u64 (d[a]!).id, .int .u64 (d[a]!).d]))))) = σ0 at hat0
  generalize swp d a p = d0 at *
  refine WC_loopI 0 (fun (s : (Nat × Nat) × Array Hit) env σ' n' => n' = n ∧ env 0 = .ref id 0 N 2 ∧ env 1 = .int .i64 (a : Int) ∧ env 4 = .fn 24 [] ∧ env 11 = .int .i64 (s.1.1 : Int) ∧ env 12 = .int .i64 (s.1.2 : Int) ∧
      a < s.1.1 ∧ s.1.1 ≤ s.1.2 + 2 ∧ s.1.2 < b ∧ s.2.size = N ∧ At σ' σ id s.2 ∧ partEqLoop ahead a s.1.1 s.1.2 s.2 = partEqLoop ahead a (a + 1) (b - 1) d0) (fun s => s.1.2 + 1 - s.1.1) ?_ ((a + 1, b - 1), d0) _ _ _ ?_
  · intro ⟨⟨i, j⟩, e⟩ env σ1 n1 ⟨h1, h2, h3, h4, h5, h6, h7, h8, h9, h10, h11, h12⟩
    subst h1
    simp only at h5 h6 h7 h8 h9 h10 h11 h12
    have hat := h11.1
    have xa := rw_at (d := e) (i := a) (by omega)
    rw [partEqLoop_eq] at h12
    simp +contextual -implicitDefEqProofs (maxSteps := 2000000) only [↓wP, wQ, wQ1, wQ2, wQ3, wR, boxE, partsOf, ↓reduceIte, Nat.reduceEqDiff, Nat.reduceAdd, Nat.reduceSub, Nat.reduceLeDiff, Nat.reduceLT, Nat.reduceMul, reduceCtorEq, Int.reduceBNe, Int.reduceBEq, Int.reduceLT, Int.reduceLE, Int.reduceGT]
    refine WC_loopE 2 0 (fun (i' : Nat) env σ' n' => σ' = σ1 ∧ n' = n1 ∧ env 0 = .ref id 0 N 2 ∧ env 1 = .int .i64 (a : Int) ∧ env 4 = .fn 24 [] ∧ env 11 = .int .i64 (i' : Int) ∧ env 12 = .int .i64 (j : Int) ∧
        i ≤ i' ∧ i' ≤ j + 2 ∧ scanUp (fun x => !ahead e[a]! x) e j i' = scanUp (fun x => !ahead e[a]! x) e j i) (fun i' => j + 1 - i')
      (fun env σ' n' => σ' = σ1 ∧ n' = n1 ∧ env 0 = .ref id 0 N 2 ∧ env 1 = .int .i64 (a : Int) ∧ env 4 = .fn 24 [] ∧ env 11 = .int .i64 ((scanUp (fun x => !ahead e[a]! x) e j i : Nat) : Int) ∧ env 12 = .int .i64 (j : Int) ∧ scanUp (fun x => !ahead e[a]! x) e j i ≤ j + 2) ?_ ?_ i _ _ _ ?_
    · clear h2 h3 h4 h5 h6
      intro i' env σ2 n2 ⟨k1, k2, k3, k4, k5, k6, k7, k8, k9, k10⟩
      subst k1 k2
      by_cases hle : i' ≤ j
      · have hle' : (i' : Int) ≤ (j : Int) := by omega
        have wi : IntKind.i64.wrap ((i' : Int) + 1) = ((i' + 1 : Nat) : Int) := by rw [wrap_i64] <;> omega
        have x1 := rw_at (d := e) (i := i') (by omega)
        have l1 : i' < N := by omega
        by_cases hc : cmpH e[a]! e[i']! < 0
        · have hah : ahead e[a]! e[i']! = true := by rw [← cmp_lt]; simpa using hc
          have hst := su_stop (p := fun x => !ahead e[a]! x) (d := e) (i := i') (j := j) (.inr (by simp [hah]))
          rw [hst] at k10
          rw [← k10]
          simp +contextual -implicitDefEqProofs (maxSteps := 2000000) only [↓wP, wQ, wQ1, wQ2, wQ3, wR, boxE, partsOf, ↓reduceIte, Nat.reduceEqDiff, Nat.reduceAdd, Nat.reduceSub, Nat.reduceLeDiff, Nat.reduceLT, Nat.reduceMul, reduceCtorEq, Int.reduceBNe, Int.reduceBEq, Int.reduceLT, Int.reduceLE, Int.reduceGT, exQ_exit, k3, k4, k5, k6, k7, hle', hat, m1, l1, xa, x1, f24, hc]
          omega
        · have hah : ahead e[a]! e[i']! = false := by rw [← cmp_lt]; simpa using hc
          simp +contextual -implicitDefEqProofs (maxSteps := 2000000) only [↓wP, wQ, wQ1, wQ2, wQ3, wR, boxE, partsOf, ↓reduceIte, Nat.reduceEqDiff, Nat.reduceAdd, Nat.reduceSub, Nat.reduceLeDiff, Nat.reduceLT, Nat.reduceMul, reduceCtorEq, Int.reduceBNe, Int.reduceBEq, Int.reduceLT, Int.reduceLE, Int.reduceGT, exQ_exit, k3, k4, k5, k6, k7, hle', hat, m1, l1, xa, x1, f24, hc, wi]
          exact ⟨i' + 1, by omega, rfl, by omega, by omega, by rw [su_go hle (by simp [hah])]; exact k10⟩
      · have hle' : ¬ (i' : Int) ≤ (j : Int) := by omega
        have hst := su_stop (p := fun x => !ahead e[a]! x) (d := e) (i := i') (j := j) (.inl hle)
        rw [hst] at k10
        rw [← k10]
        simp +contextual -implicitDefEqProofs (maxSteps := 2000000) only [↓wP, wQ, wQ1, wQ2, wQ3, wR, boxE, partsOf, ↓reduceIte, Nat.reduceEqDiff, Nat.reduceAdd, Nat.reduceSub, Nat.reduceLeDiff, Nat.reduceLT, Nat.reduceMul, reduceCtorEq, Int.reduceBNe, Int.reduceBEq, Int.reduceLT, Int.reduceLE, Int.reduceGT, exQ_exit, k3, k4, k5, k6, k7, hle']
        omega
    · clear h2 h3 h4 h5 h6
      intro env σ2 n2 ⟨k1, k2, h2, h3, h4, h5, h6, k8⟩
      subst k1 k2
      have hge := scanUp_ge (fun x => !ahead e[a]! x) e j i
      generalize scanUp (fun x => !ahead e[a]! x) e j i = i2 at *
      simp +contextual -implicitDefEqProofs (maxSteps := 2000000) only [↓wP, wQ, wQ1, wQ2, wQ3, wR, boxE, partsOf, ↓reduceIte, Nat.reduceEqDiff, Nat.reduceAdd, Nat.reduceSub, Nat.reduceLeDiff, Nat.reduceLT, Nat.reduceMul, reduceCtorEq, Int.reduceBNe, Int.reduceBEq, Int.reduceLT, Int.reduceLE, Int.reduceGT]
      refine WC_loopE 4 0 (fun (j' : Nat) env σ' n' => σ' = σ2 ∧ n' = n2 ∧ env 0 = .ref id 0 N 2 ∧ env 1 = .int .i64 (a : Int) ∧ env 4 = .fn 24 [] ∧ env 11 = .int .i64 (i2 : Int) ∧ env 12 = .int .i64 (j' : Int) ∧
          j' ≤ j ∧ i2 ≤ j' + 2 ∧ scanDown (fun x => ahead e[a]! x) e i2 j' = scanDown (fun x => ahead e[a]! x) e i2 j) (fun j' => j')
        (fun env σ' n' => σ' = σ2 ∧ n' = n2 ∧ env 0 = .ref id 0 N 2 ∧ env 1 = .int .i64 (a : Int) ∧ env 4 = .fn 24 [] ∧ env 11 = .int .i64 (i2 : Int) ∧ env 12 = .int .i64 ((scanDown (fun x => ahead e[a]! x) e i2 j : Nat) : Int) ∧ i2 ≤ scanDown (fun x => ahead e[a]! x) e i2 j + 2) ?_ ?_ j _ _ _ ?_
      · clear h2 h3 h4 h5 h6
        intro j' env σ3 n3 ⟨k1, k2, k3, k4, k5, k6, k7, k8, k9, k10⟩
        subst k1 k2
        by_cases hle : i2 ≤ j'
        · have hle' : (i2 : Int) ≤ (j' : Int) := by omega
          obtain ⟨j', rfl⟩ : ∃ q, j' = q + 1 := ⟨j' - 1, by omega⟩
          have wi : IntKind.i64.wrap (((j' + 1 : Nat) : Int) - 1) = (j' : Int) := by rw [wrap_i64] <;> omega
          have x1 := rw_at (d := e) (i := j' + 1) (by omega)
          have l1 : j' + 1 < N := by omega
          by_cases hc : cmpH e[a]! e[j' + 1]! < 0
          · have hah : ahead e[a]! e[j' + 1]! = true := by rw [← cmp_lt]; simpa using hc
            simp +contextual -implicitDefEqProofs (maxSteps := 2000000) only [↓wP, wQ, wQ1, wQ2, wQ3, wR, boxE, partsOf, ↓reduceIte, Nat.reduceEqDiff, Nat.reduceAdd, Nat.reduceSub, Nat.reduceLeDiff, Nat.reduceLT, Nat.reduceMul, reduceCtorEq, Int.reduceBNe, Int.reduceBEq, Int.reduceLT, Int.reduceLE, Int.reduceGT, exQ_exit, k3, k4, k5, k6, k7, hle', hat, m1, l1, xa, x1, f24, hc, wi]
            exact ⟨j', by omega, rfl, by omega, by omega, by rw [sd_go hle hah]; exact k10⟩
          · have hah : ahead e[a]! e[j' + 1]! = false := by rw [← cmp_lt]; simpa using hc
            have hst := sd_stop (p := fun x => ahead e[a]! x) (d := e) (i := i2) (j := j' + 1) (.inr hah)
            rw [hst] at k10
            rw [← k10]
            simp +contextual -implicitDefEqProofs (maxSteps := 2000000) only [↓wP, wQ, wQ1, wQ2, wQ3, wR, boxE, partsOf, ↓reduceIte, Nat.reduceEqDiff, Nat.reduceAdd, Nat.reduceSub, Nat.reduceLeDiff, Nat.reduceLT, Nat.reduceMul, reduceCtorEq, Int.reduceBNe, Int.reduceBEq, Int.reduceLT, Int.reduceLE, Int.reduceGT, exQ_exit, k3, k4, k5, k6, k7, hle', hat, m1, l1, xa, x1, f24, hc]
            omega
        · have hle' : ¬ (i2 : Int) ≤ (j' : Int) := by omega
          have hst := sd_stop (p := fun x => ahead e[a]! x) (d := e) (i := i2) (j := j') (.inl hle)
          rw [hst] at k10
          rw [← k10]
          simp +contextual -implicitDefEqProofs (maxSteps := 2000000) only [↓wP, wQ, wQ1, wQ2, wQ3, wR, boxE, partsOf, ↓reduceIte, Nat.reduceEqDiff, Nat.reduceAdd, Nat.reduceSub, Nat.reduceLeDiff, Nat.reduceLT, Nat.reduceMul, reduceCtorEq, Int.reduceBNe, Int.reduceBEq, Int.reduceLT, Int.reduceLE, Int.reduceGT, exQ_exit, k3, k4, k5, k6, k7, hle']
          omega
      · clear h2 h3 h4 h5 h6
        intro env σ3 n3 ⟨k1, k2, h2, h3, h4, h5, h6, k9⟩
        subst k1 k2
        have hle := scanDown_le (fun x => ahead e[a]! x) e i2 j
        generalize scanDown (fun x => ahead e[a]! x) e i2 j = j2 at *
        by_cases hgt : j2 < i2
        · have hgt' : (j2 : Int) < (i2 : Int) := by omega
          rw [if_pos hgt] at h12
          simp +contextual -implicitDefEqProofs (maxSteps := 2000000) only [↓wP, wQ, wQ1, wQ2, wQ3, wR, boxE, partsOf, ↓reduceIte, Nat.reduceEqDiff, Nat.reduceAdd, Nat.reduceSub, Nat.reduceLeDiff, Nat.reduceLT, Nat.reduceMul, reduceCtorEq, Int.reduceBNe, Int.reduceBEq, Int.reduceLT, Int.reduceLE, Int.reduceGT, h2, h3, h4, h5, h6, hgt']
          have := hQ σ3
          rw [← h12] at this
          exact this h11
        · have hgt' : ¬ (j2 : Int) < (i2 : Int) := by omega
          rw [if_neg hgt] at h12
          have wi : IntKind.i64.wrap ((i2 : Int) + 1) = ((i2 + 1 : Nat) : Int) := by rw [wrap_i64] <;> omega
          have wj : IntKind.i64.wrap ((j2 : Int) - 1) = ((j2 - 1 : Nat) : Int) := by rw [wrap_i64] <;> omega
          have x1 := rw_at (d := e) (i := i2) (by omega)
          have x2 := rw_at (d := e) (i := j2) (by omega)
          obtain ⟨u, v, x3⟩ := rw_set_at (d := e) (i := i2) (j := j2) (x := e[j2]!) (by omega)
          have l1 : i2 < N := by omega
          have l2 : j2 < N := by omega
          simp +contextual -implicitDefEqProofs (maxSteps := 2000000) only [↓wP, wQ, wQ1, wQ2, wQ3, wR, boxE, partsOf, ↓reduceIte, Nat.reduceEqDiff, Nat.reduceAdd, Nat.reduceSub, Nat.reduceLeDiff, Nat.reduceLT, Nat.reduceMul, reduceCtorEq, Int.reduceBNe, Int.reduceBEq, Int.reduceLT, Int.reduceLE, Int.reduceGT, h2, h3, h4, h5, h6, hgt', wi, wj, x1, x2, x3, l1, l2, hat]
          refine ⟨((i2 + 1, j2 - 1), swp e i2 j2), by dsimp only; omega, rfl, rfl, by dsimp only; omega, by dsimp only; omega, by dsimp only; omega, by rw [swp_size, h10], h11.swp _ _, h12⟩
      · simp +contextual -implicitDefEqProofs (maxSteps := 2000000) only [↓wP, wQ, wQ1, wQ2, wQ3, wR, boxE, partsOf, ↓reduceIte, Nat.reduceEqDiff, Nat.reduceAdd, Nat.reduceSub, Nat.reduceLeDiff, Nat.reduceLT, Nat.reduceMul, reduceCtorEq, Int.reduceBNe, Int.reduceBEq, Int.reduceLT, Int.reduceLE, Int.reduceGT, h2, h3, h4, h5, h6]
        exact k8
    · simp +contextual -implicitDefEqProofs (maxSteps := 2000000) only [↓wP, wQ, wQ1, wQ2, wQ3, wR, boxE, partsOf, ↓reduceIte, Nat.reduceEqDiff, Nat.reduceAdd, Nat.reduceSub, Nat.reduceLeDiff, Nat.reduceLT, Nat.reduceMul, reduceCtorEq, Int.reduceBNe, Int.reduceBEq, Int.reduceLT, Int.reduceLE, Int.reduceGT, h2, h3, h4, h5, h6]
      exact h8
  · simp +contextual -implicitDefEqProofs (maxSteps := 2000000) only [↓wP, wQ, wQ1, wQ2, wQ3, wR, boxE, partsOf, ↓reduceIte, Nat.reduceEqDiff, Nat.reduceAdd, Nat.reduceSub, Nat.reduceLeDiff, Nat.reduceLT, Nat.reduceMul, reduceCtorEq, Int.reduceBNe, Int.reduceBEq, Int.reduceLT, Int.reduceLE, Int.reduceGT]
    exact ⟨by omega, by omega, by omega, hs0, hat0⟩

theorem raw100 (d : Array Hit) (a b p id n : Nat) (σ : Sto) (hap : a ≤ p) (hpb : p < b) (hb : b ≤ d.size) (hn : d.size < 1000000) (hσ : σ id = some (.row 2 (rw' d))) {Q : V → Sto → Nat → Prop}
    (hQ : ∀ σ', At σ' σ id (partition ahead d a b p).2.2 → Q (.tup [.int .i64 ((partition ahead d a b p).1 : Int), .bool (partition ahead d a b p).2.1]) σ' n) :
    run T (.raw 100 [.ref id 0 d.size 2, .int .i64 (a : Int), .int .i64 (b : Int), .int .i64 (p : Int), .fn 24 []] σ n 0) (memQ Q) := by
  refine run_rawE (fn := g100) rfl rfl ?_
  simp only [g100, b100]
  have w1 : IntKind.i64.wrap ((a : Int) + 1) = ((a + 1 : Nat) : Int) := by rw [wrap_i64] <;> omega
  have w2 : IntKind.i64.wrap ((b : Int) - 1) = ((b - 1 : Nat) : Int) := by rw [wrap_i64] <;> omega
  have y1 := rw_at (d := d) (i := a) (by omega)
  have y2 := rw_at (d := d) (i := p) (by omega)
  obtain ⟨u, v, y3⟩ := rw_set_at (d := d) (i := a) (j := p) (x := d[p]!) (by omega)
  have h11 := (At.refl hσ).swp a p
  have h10 : (swp d a p).size = d.size := swp_size _ _ _
  unfold partition at hQ
  generalize hsz : d.size = N at *
  have m1 : a < N := by omega
  have m2 : p < N := by omega
  simp +contextual -implicitDefEqProofs (maxSteps := 2000000) only [↓wP, wQ, wQ1, wQ2, wQ3, wR, boxE, partsOf, ↓reduceIte, Nat.reduceEqDiff, Nat.reduceAdd, Nat.reduceSub, Nat.reduceLeDiff, Nat.reduceLT, Nat.reduceMul, reduceCtorEq, Int.reduceBNe, Int.reduceBEq, Int.reduceLT, Int.reduceLE, Int.reduceGT, w1, w2, y1, y2, y3, m1, m2, hσ]
  generalize (upd (upd σ id (some (.row 2 ((rw' d).set a (.agg [.int .u64 (d[p]!).id, .int .u64 (d[p]!).d]))))) id
      (some (.row 2 (((rw' d).set a (.agg [.int .u64 (d[p]!).id, .int .u64 (d[p]!).d])).set p (.agg [.int .u64 (d[a]!).id, .int .u64 (d[a]!).d]))))) = σ1 at h11
  generalize swp d a p = e at *
  simp only [gt_iff_lt] at hQ
  have hat := h11.1
  have xa := rw_at (d := e) (i := a) (by omega)
  obtain ⟨n1, hn1⟩ : ∃ n1, n1 = n := ⟨_, rfl⟩
  rw [← hn1] at hQ ⊢
  have h8 : a + 1 ≤ b - 1 + 2 := by omega
  have h2 : True := trivial
  have h3 : True := trivial
  have h4 : True := trivial
  have h5 : True := trivial
  have h6 : True := trivial
  refine WC_loopE 0 0 (fun (i' : Nat) env σ' n' => σ' = σ1 ∧ n' = n1 ∧ env 0 = .ref id 0 N 2 ∧ env 1 = .int .i64 (a : Int) ∧ env 4 = .fn 24 [] ∧ env 12 = .int .i64 (i' : Int) ∧ env 13 = .int .i64 ((b - 1 : Nat) : Int) ∧
      a + 1 ≤ i' ∧ i' ≤ b - 1 + 2 ∧ scanUp (fun x => ahead x e[a]!) e (b - 1) i' = scanUp (fun x => ahead x e[a]!) e (b - 1) (a + 1)) (fun i' => b - 1 + 1 - i')
    (fun env σ' n' => σ' = σ1 ∧ n' = n1 ∧ env 0 = .ref id 0 N 2 ∧ env 1 = .int .i64 (a : Int) ∧ env 4 = .fn 24 [] ∧ env 12 = .int .i64 ((scanUp (fun x => ahead x e[a]!) e (b - 1) (a + 1) : Nat) : Int) ∧ env 13 = .int .i64 ((b - 1 : Nat) : Int) ∧ scanUp (fun x => ahead x e[a]!) e (b - 1) (a + 1) ≤ b - 1 + 2) ?_ ?_ (a + 1) _ _ _ ?_
  · clear h2 h3 h4 h5 h6
    intro i' env σ2 n2 ⟨k1, k2, k3, k4, k5, k6, k7, k8, k9, k10⟩
    subst k1 k2
    by_cases hle : i' ≤ b - 1
    · have hle' : (i' : Int) ≤ ((b - 1 : Nat) : Int) := by omega
      have wi : IntKind.i64.wrap ((i' : Int) + 1) = ((i' + 1 : Nat) : Int) := by rw [wrap_i64] <;> omega
      have x1 := rw_at (d := e) (i := i') (by omega)
      have l1 : i' < N := by omega
      by_cases hc : cmpH e[i']! e[a]! < 0
      · have hah : ahead e[i']! e[a]! = true := by rw [← cmp_lt]; simpa using hc
        simp +contextual -implicitDefEqProofs (maxSteps := 2000000) only [↓wP, wQ, wQ1, wQ2, wQ3, wR, boxE, partsOf, ↓reduceIte, Nat.reduceEqDiff, Nat.reduceAdd, Nat.reduceSub, Nat.reduceLeDiff, Nat.reduceLT, Nat.reduceMul, reduceCtorEq, Int.reduceBNe, Int.reduceBEq, Int.reduceLT, Int.reduceLE, Int.reduceGT, exQ_exit, k3, k4, k5, k6, k7, hle', hat, m1, l1, xa, x1, f24, hc, wi]
        exact ⟨i' + 1, by omega, rfl, by omega, by omega, by rw [su_go hle (by simp [hah])]; exact k10⟩
      · have hah : ahead e[i']! e[a]! = false := by rw [← cmp_lt]; simpa using hc
        have hst := su_stop (p := (fun x => ahead x e[a]!)) (d := e) (i := i') (j := b - 1) (.inr (by simp [hah]))
        rw [hst] at k10
        rw [← k10]
        simp +contextual -implicitDefEqProofs (maxSteps := 2000000) only [↓wP, wQ, wQ1, wQ2, wQ3, wR, boxE, partsOf, ↓reduceIte, Nat.reduceEqDiff, Nat.reduceAdd, Nat.reduceSub, Nat.reduceLeDiff, Nat.reduceLT, Nat.reduceMul, reduceCtorEq, Int.reduceBNe, Int.reduceBEq, Int.reduceLT, Int.reduceLE, Int.reduceGT, exQ_exit, k3, k4, k5, k6, k7, hle', hat, m1, l1, xa, x1, f24, hc]
        omega
    · have hle' : ¬ (i' : Int) ≤ ((b - 1 : Nat) : Int) := by omega
      have hst := su_stop (p := (fun x => ahead x e[a]!)) (d := e) (i := i') (j := b - 1) (.inl hle)
      rw [hst] at k10
      rw [← k10]
      simp +contextual -implicitDefEqProofs (maxSteps := 2000000) only [↓wP, wQ, wQ1, wQ2, wQ3, wR, boxE, partsOf, ↓reduceIte, Nat.reduceEqDiff, Nat.reduceAdd, Nat.reduceSub, Nat.reduceLeDiff, Nat.reduceLT, Nat.reduceMul, reduceCtorEq, Int.reduceBNe, Int.reduceBEq, Int.reduceLT, Int.reduceLE, Int.reduceGT, exQ_exit, k3, k4, k5, k6, k7, hle']
      omega
  · clear h2 h3 h4 h5 h6
    intro env σ2 n2 ⟨k1, k2, h2, h3, h4, h5, h6, k8⟩
    subst k1 k2
    have hge := scanUp_ge (fun x => ahead x e[a]!) e (b - 1) (a + 1)
    generalize scanUp (fun x => ahead x e[a]!) e (b - 1) (a + 1) = i2 at *
    simp +contextual -implicitDefEqProofs (maxSteps := 2000000) only [↓wP, wQ, wQ1, wQ2, wQ3, wR, boxE, partsOf, ↓reduceIte, Nat.reduceEqDiff, Nat.reduceAdd, Nat.reduceSub, Nat.reduceLeDiff, Nat.reduceLT, Nat.reduceMul, reduceCtorEq, Int.reduceBNe, Int.reduceBEq, Int.reduceLT, Int.reduceLE, Int.reduceGT]
    refine WC_loopE 2 0 (fun (j' : Nat) env σ' n' => σ' = σ2 ∧ n' = n2 ∧ env 0 = .ref id 0 N 2 ∧ env 1 = .int .i64 (a : Int) ∧ env 4 = .fn 24 [] ∧ env 12 = .int .i64 (i2 : Int) ∧ env 13 = .int .i64 (j' : Int) ∧
        j' ≤ b - 1 ∧ i2 ≤ j' + 2 ∧ scanDown (fun x => !ahead x e[a]!) e i2 j' = scanDown (fun x => !ahead x e[a]!) e i2 (b - 1)) (fun j' => j')
      (fun env σ' n' => σ' = σ2 ∧ n' = n2 ∧ env 0 = .ref id 0 N 2 ∧ env 1 = .int .i64 (a : Int) ∧ env 4 = .fn 24 [] ∧ env 12 = .int .i64 (i2 : Int) ∧ env 13 = .int .i64 ((scanDown (fun x => !ahead x e[a]!) e i2 (b - 1) : Nat) : Int) ∧ i2 ≤ scanDown (fun x => !ahead x e[a]!) e i2 (b - 1) + 2) ?_ ?_ (b - 1) _ _ _ ?_
    · clear h2 h3 h4 h5 h6
      intro j' env σ3 n3 ⟨k1, k2, k3, k4, k5, k6, k7, k8, k9, k10⟩
      subst k1 k2
      by_cases hle : i2 ≤ j'
      · have hle' : (i2 : Int) ≤ (j' : Int) := by omega
        obtain ⟨j', rfl⟩ : ∃ q, j' = q + 1 := ⟨j' - 1, by omega⟩
        have wi : IntKind.i64.wrap (((j' + 1 : Nat) : Int) - 1) = (j' : Int) := by rw [wrap_i64] <;> omega
        have x1 := rw_at (d := e) (i := j' + 1) (by omega)
        have l1 : j' + 1 < N := by omega
        by_cases hc : cmpH e[j' + 1]! e[a]! < 0
        · have hah : ahead e[j' + 1]! e[a]! = true := by rw [← cmp_lt]; simpa using hc
          have hst := sd_stop (p := (fun x => !ahead x e[a]!)) (d := e) (i := i2) (j := j' + 1) (.inr (by simp [hah]))
          rw [hst] at k10
          rw [← k10]
          simp +contextual -implicitDefEqProofs (maxSteps := 2000000) only [↓wP, wQ, wQ1, wQ2, wQ3, wR, boxE, partsOf, ↓reduceIte, Nat.reduceEqDiff, Nat.reduceAdd, Nat.reduceSub, Nat.reduceLeDiff, Nat.reduceLT, Nat.reduceMul, reduceCtorEq, Int.reduceBNe, Int.reduceBEq, Int.reduceLT, Int.reduceLE, Int.reduceGT, exQ_exit, k3, k4, k5, k6, k7, hle', hat, m1, l1, xa, x1, f24, hc]
          omega
        · have hah : ahead e[j' + 1]! e[a]! = false := by rw [← cmp_lt]; simpa using hc
          simp +contextual -implicitDefEqProofs (maxSteps := 2000000) only [↓wP, wQ, wQ1, wQ2, wQ3, wR, boxE, partsOf, ↓reduceIte, Nat.reduceEqDiff, Nat.reduceAdd, Nat.reduceSub, Nat.reduceLeDiff, Nat.reduceLT, Nat.reduceMul, reduceCtorEq, Int.reduceBNe, Int.reduceBEq, Int.reduceLT, Int.reduceLE, Int.reduceGT, exQ_exit, k3, k4, k5, k6, k7, hle', hat, m1, l1, xa, x1, f24, hc, wi]
          exact ⟨j', by omega, rfl, by omega, by omega, by rw [sd_go hle (by simp [hah])]; exact k10⟩
      · have hle' : ¬ (i2 : Int) ≤ (j' : Int) := by omega
        have hst := sd_stop (p := (fun x => !ahead x e[a]!)) (d := e) (i := i2) (j := j') (.inl hle)
        rw [hst] at k10
        rw [← k10]
        simp +contextual -implicitDefEqProofs (maxSteps := 2000000) only [↓wP, wQ, wQ1, wQ2, wQ3, wR, boxE, partsOf, ↓reduceIte, Nat.reduceEqDiff, Nat.reduceAdd, Nat.reduceSub, Nat.reduceLeDiff, Nat.reduceLT, Nat.reduceMul, reduceCtorEq, Int.reduceBNe, Int.reduceBEq, Int.reduceLT, Int.reduceLE, Int.reduceGT, exQ_exit, k3, k4, k5, k6, k7, hle']
        omega
    · clear h2 h3 h4 h5 h6
      intro env σ3 n3 ⟨k1, k2, h2, h3, h4, h5, h6, k9⟩
      subst k1 k2
      have hle := scanDown_le (fun x => !ahead x e[a]!) e i2 (b - 1)
      generalize scanDown (fun x => !ahead x e[a]!) e i2 (b - 1) = j2 at *
      by_cases hgt : j2 < i2
      · have hgt' : (j2 : Int) < (i2 : Int) := by omega
        have x1 := rw_at (d := e) (i := j2) (by omega)
        have x2 := rw_at (d := e) (i := a) (by omega)
        obtain ⟨u, v, x3⟩ := rw_set_at (d := e) (i := j2) (j := a) (x := e[a]!) (by omega)
        have l1 : j2 < N := by omega
        have l2 : a < N := by omega
        simp +contextual -implicitDefEqProofs (maxSteps := 2000000) only [↓wP, wQ, wQ1, wQ2, wQ3, wR, boxE, partsOf, ↓reduceIte, Nat.reduceEqDiff, Nat.reduceAdd, Nat.reduceSub, Nat.reduceLeDiff, Nat.reduceLT, Nat.reduceMul, reduceCtorEq, Int.reduceBNe, Int.reduceBEq, Int.reduceLT, Int.reduceLE, Int.reduceGT, h2, h3, h4, h5, h6, hgt', x1, x2, x3, l1, l2, hat]
        rw [if_pos hgt] at hQ
        exact hQ _ (h11.swp _ _)
      · have hgt' : ¬ (j2 : Int) < (i2 : Int) := by omega
        rw [if_neg hgt] at hQ
        have wi : IntKind.i64.wrap ((i2 : Int) + 1) = ((i2 + 1 : Nat) : Int) := by rw [wrap_i64] <;> omega
        have wj : IntKind.i64.wrap ((j2 : Int) - 1) = ((j2 - 1 : Nat) : Int) := by rw [wrap_i64] <;> omega
        have x1 := rw_at (d := e) (i := i2) (by omega)
        have x2 := rw_at (d := e) (i := j2) (by omega)
        obtain ⟨u, v, x3⟩ := rw_set_at (d := e) (i := i2) (j := j2) (x := e[j2]!) (by omega)
        have l1 : i2 < N := by omega
        have l2 : j2 < N := by omega
        have hat1 := h11.swp i2 j2
        have hs1 : (swp e i2 j2).size = N := by rw [swp_size, h10]
        simp +contextual -implicitDefEqProofs (maxSteps := 2000000) only [↓wP, wQ, wQ1, wQ2, wQ3, wR, boxE, partsOf, ↓reduceIte, Nat.reduceEqDiff, Nat.reduceAdd, Nat.reduceSub, Nat.reduceLeDiff, Nat.reduceLT, Nat.reduceMul, reduceCtorEq, Int.reduceBNe, Int.reduceBEq, Int.reduceLT, Int.reduceLE, Int.reduceGT, h2, h3, h4, h5, h6, hgt', wi, wj, x1, x2, x3, l1, l2, hat]
        generalize (upd (upd σ3 id (some (.row 2 ((rw' e).set i2 (.agg [.int .u64 (e[j2]!).id, .int .u64 (e[j2]!).d]))))) id
            (some (.row 2 (((rw' e).set i2 (.agg [.int .u64 (e[j2]!).id, .int .u64 (e[j2]!).d])).set j2 (.agg [.int .u64 (e[i2]!).id, .int .u64 (e[i2]!).d]))))) = σ5 at hat1
        generalize swp e i2 j2 = d1 at *
        have hR : ∀ (j3 : Nat) (e : Array Hit), (j3, e) = partLoop ahead a (i2 + 1) (j2 - 1) d1 → e.size = N → j3 < b → ∀ σ', At σ' σ id (swp e j3 a) → Q (.tup [.int .i64 (j3 : Int), .bool false]) σ' n3 := by
          intro j3 e h1 _ _ σ' h4
          rw [← h1] at hQ
          exact hQ _ h4
        generalize i2 = i0 at *
        generalize j2 = j0 at *
        clear x1 x2 x3 l1 l2 k8 k9 h10 h11 hgt' wi wj
        refine WC_loopI 0 (fun (s : (Nat × Nat) × Array Hit) env σ' n' => n' = n3 ∧ env 0 = .ref id 0 N 2 ∧ env 1 = .int .i64 (a : Int) ∧ env 4 = .fn 24 [] ∧ env 12 = .int .i64 (s.1.1 : Int) ∧ env 13 = .int .i64 (s.1.2 : Int) ∧
            a < s.1.1 ∧ s.1.1 ≤ s.1.2 + 2 ∧ s.1.2 < b ∧ s.2.size = N ∧ At σ' σ id s.2 ∧ partLoop ahead a s.1.1 s.1.2 s.2 = partLoop ahead a (i0 + 1) (j0 - 1) d1) (fun s => s.1.2 + 1 - s.1.1) ?_ ((i0 + 1, j0 - 1), d1) _ _ _ ?_
        · clear hat xa
          intro ⟨⟨i, j⟩, e⟩ env σ1 n1 ⟨h1, h2, h3, h4, h5, h6, h7, h8, h9, h10, h11, h12⟩
          subst h1
          simp only at h5 h6 h7 h8 h9 h10 h11 h12
          have hat := h11.1
          have xa := rw_at (d := e) (i := a) (by omega)
          rw [partLoop_eq] at h12
          simp +contextual -implicitDefEqProofs (maxSteps := 2000000) only [↓wP, wQ, wQ1, wQ2, wQ3, wR, boxE, partsOf, ↓reduceIte, Nat.reduceEqDiff, Nat.reduceAdd, Nat.reduceSub, Nat.reduceLeDiff, Nat.reduceLT, Nat.reduceMul, reduceCtorEq, Int.reduceBNe, Int.reduceBEq, Int.reduceLT, Int.reduceLE, Int.reduceGT]
          refine WC_loopE 6 0 (fun (i' : Nat) env σ' n' => σ' = σ1 ∧ n' = n1 ∧ env 0 = .ref id 0 N 2 ∧ env 1 = .int .i64 (a : Int) ∧ env 4 = .fn 24 [] ∧ env 12 = .int .i64 (i' : Int) ∧ env 13 = .int .i64 ((j : Nat) : Int) ∧
              i ≤ i' ∧ i' ≤ j + 2 ∧ scanUp (fun x => ahead x e[a]!) e (j) i' = scanUp (fun x => ahead x e[a]!) e (j) (i)) (fun i' => j + 1 - i')
            (fun env σ' n' => σ' = σ1 ∧ n' = n1 ∧ env 0 = .ref id 0 N 2 ∧ env 1 = .int .i64 (a : Int) ∧ env 4 = .fn 24 [] ∧ env 12 = .int .i64 ((scanUp (fun x => ahead x e[a]!) e (j) (i) : Nat) : Int) ∧ env 13 = .int .i64 ((j : Nat) : Int) ∧ scanUp (fun x => ahead x e[a]!) e (j) (i) ≤ j + 2) ?_ ?_ (i) _ _ _ ?_
          · clear h2 h3 h4 h5 h6
            intro i' env σ2 n2 ⟨k1, k2, k3, k4, k5, k6, k7, k8, k9, k10⟩
            subst k1 k2
            by_cases hle : i' ≤ j
            · have hle' : (i' : Int) ≤ ((j : Nat) : Int) := by omega
              have wi : IntKind.i64.wrap ((i' : Int) + 1) = ((i' + 1 : Nat) : Int) := by rw [wrap_i64] <;> omega
              have x1 := rw_at (d := e) (i := i') (by omega)
              have l1 : i' < N := by omega
              by_cases hc : cmpH e[i']! e[a]! < 0
              · have hah : ahead e[i']! e[a]! = true := by rw [← cmp_lt]; simpa using hc
                simp +contextual -implicitDefEqProofs (maxSteps := 2000000) only [↓wP, wQ, wQ1, wQ2, wQ3, wR, boxE, partsOf, ↓reduceIte, Nat.reduceEqDiff, Nat.reduceAdd, Nat.reduceSub, Nat.reduceLeDiff, Nat.reduceLT, Nat.reduceMul, reduceCtorEq, Int.reduceBNe, Int.reduceBEq, Int.reduceLT, Int.reduceLE, Int.reduceGT, exQ_exit, k3, k4, k5, k6, k7, hle', hat, m1, l1, xa, x1, f24, hc, wi]
                exact ⟨i' + 1, by omega, rfl, by omega, by omega, by rw [su_go hle (by simp [hah])]; exact k10⟩
              · have hah : ahead e[i']! e[a]! = false := by rw [← cmp_lt]; simpa using hc
                have hst := su_stop (p := (fun x => ahead x e[a]!)) (d := e) (i := i') (j := j) (.inr (by simp [hah]))
                rw [hst] at k10
                rw [← k10]
                simp +contextual -implicitDefEqProofs (maxSteps := 2000000) only [↓wP, wQ, wQ1, wQ2, wQ3, wR, boxE, partsOf, ↓reduceIte, Nat.reduceEqDiff, Nat.reduceAdd, Nat.reduceSub, Nat.reduceLeDiff, Nat.reduceLT, Nat.reduceMul, reduceCtorEq, Int.reduceBNe, Int.reduceBEq, Int.reduceLT, Int.reduceLE, Int.reduceGT, exQ_exit, k3, k4, k5, k6, k7, hle', hat, m1, l1, xa, x1, f24, hc]
                omega
            · have hle' : ¬ (i' : Int) ≤ ((j : Nat) : Int) := by omega
              have hst := su_stop (p := (fun x => ahead x e[a]!)) (d := e) (i := i') (j := j) (.inl hle)
              rw [hst] at k10
              rw [← k10]
              simp +contextual -implicitDefEqProofs (maxSteps := 2000000) only [↓wP, wQ, wQ1, wQ2, wQ3, wR, boxE, partsOf, ↓reduceIte, Nat.reduceEqDiff, Nat.reduceAdd, Nat.reduceSub, Nat.reduceLeDiff, Nat.reduceLT, Nat.reduceMul, reduceCtorEq, Int.reduceBNe, Int.reduceBEq, Int.reduceLT, Int.reduceLE, Int.reduceGT, exQ_exit, k3, k4, k5, k6, k7, hle']
              omega
          · clear h2 h3 h4 h5 h6
            intro env σ2 n2 ⟨k1, k2, h2, h3, h4, h5, h6, k8⟩
            subst k1 k2
            have hge := scanUp_ge (fun x => ahead x e[a]!) e (j) (i)
            generalize scanUp (fun x => ahead x e[a]!) e (j) (i) = i2 at *
            simp +contextual -implicitDefEqProofs (maxSteps := 2000000) only [↓wP, wQ, wQ1, wQ2, wQ3, wR, boxE, partsOf, ↓reduceIte, Nat.reduceEqDiff, Nat.reduceAdd, Nat.reduceSub, Nat.reduceLeDiff, Nat.reduceLT, Nat.reduceMul, reduceCtorEq, Int.reduceBNe, Int.reduceBEq, Int.reduceLT, Int.reduceLE, Int.reduceGT]
            refine WC_loopE 8 0 (fun (j' : Nat) env σ' n' => σ' = σ2 ∧ n' = n2 ∧ env 0 = .ref id 0 N 2 ∧ env 1 = .int .i64 (a : Int) ∧ env 4 = .fn 24 [] ∧ env 12 = .int .i64 (i2 : Int) ∧ env 13 = .int .i64 (j' : Int) ∧
                j' ≤ j ∧ i2 ≤ j' + 2 ∧ scanDown (fun x => !ahead x e[a]!) e i2 j' = scanDown (fun x => !ahead x e[a]!) e i2 (j)) (fun j' => j')
              (fun env σ' n' => σ' = σ2 ∧ n' = n2 ∧ env 0 = .ref id 0 N 2 ∧ env 1 = .int .i64 (a : Int) ∧ env 4 = .fn 24 [] ∧ env 12 = .int .i64 (i2 : Int) ∧ env 13 = .int .i64 ((scanDown (fun x => !ahead x e[a]!) e i2 (j) : Nat) : Int) ∧ i2 ≤ scanDown (fun x => !ahead x e[a]!) e i2 (j) + 2) ?_ ?_ (j) _ _ _ ?_
            · clear h2 h3 h4 h5 h6
              intro j' env σ3 n3 ⟨k1, k2, k3, k4, k5, k6, k7, k8, k9, k10⟩
              subst k1 k2
              by_cases hle : i2 ≤ j'
              · have hle' : (i2 : Int) ≤ (j' : Int) := by omega
                obtain ⟨j', rfl⟩ : ∃ q, j' = q + 1 := ⟨j' - 1, by omega⟩
                have wi : IntKind.i64.wrap (((j' + 1 : Nat) : Int) - 1) = (j' : Int) := by rw [wrap_i64] <;> omega
                have x1 := rw_at (d := e) (i := j' + 1) (by omega)
                have l1 : j' + 1 < N := by omega
                by_cases hc : cmpH e[j' + 1]! e[a]! < 0
                · have hah : ahead e[j' + 1]! e[a]! = true := by rw [← cmp_lt]; simpa using hc
                  have hst := sd_stop (p := (fun x => !ahead x e[a]!)) (d := e) (i := i2) (j := j' + 1) (.inr (by simp [hah]))
                  rw [hst] at k10
                  rw [← k10]
                  simp +contextual -implicitDefEqProofs (maxSteps := 2000000) only [↓wP, wQ, wQ1, wQ2, wQ3, wR, boxE, partsOf, ↓reduceIte, Nat.reduceEqDiff, Nat.reduceAdd, Nat.reduceSub, Nat.reduceLeDiff, Nat.reduceLT, Nat.reduceMul, reduceCtorEq, Int.reduceBNe, Int.reduceBEq, Int.reduceLT, Int.reduceLE, Int.reduceGT, exQ_exit, k3, k4, k5, k6, k7, hle', hat, m1, l1, xa, x1, f24, hc]
                  omega
                · have hah : ahead e[j' + 1]! e[a]! = false := by rw [← cmp_lt]; simpa using hc
                  simp +contextual -implicitDefEqProofs (maxSteps := 2000000) only [↓wP, wQ, wQ1, wQ2, wQ3, wR, boxE, partsOf, ↓reduceIte, Nat.reduceEqDiff, Nat.reduceAdd, Nat.reduceSub, Nat.reduceLeDiff, Nat.reduceLT, Nat.reduceMul, reduceCtorEq, Int.reduceBNe, Int.reduceBEq, Int.reduceLT, Int.reduceLE, Int.reduceGT, exQ_exit, k3, k4, k5, k6, k7, hle', hat, m1, l1, xa, x1, f24, hc, wi]
                  exact ⟨j', by omega, rfl, by omega, by omega, by rw [sd_go hle (by simp [hah])]; exact k10⟩
              · have hle' : ¬ (i2 : Int) ≤ (j' : Int) := by omega
                have hst := sd_stop (p := (fun x => !ahead x e[a]!)) (d := e) (i := i2) (j := j') (.inl hle)
                rw [hst] at k10
                rw [← k10]
                simp +contextual -implicitDefEqProofs (maxSteps := 2000000) only [↓wP, wQ, wQ1, wQ2, wQ3, wR, boxE, partsOf, ↓reduceIte, Nat.reduceEqDiff, Nat.reduceAdd, Nat.reduceSub, Nat.reduceLeDiff, Nat.reduceLT, Nat.reduceMul, reduceCtorEq, Int.reduceBNe, Int.reduceBEq, Int.reduceLT, Int.reduceLE, Int.reduceGT, exQ_exit, k3, k4, k5, k6, k7, hle']
                omega
            · clear h2 h3 h4 h5 h6
              intro env σ3 n3 ⟨k1, k2, h2, h3, h4, h5, h6, k9⟩
              subst k1 k2
              have hle := scanDown_le (fun x => !ahead x e[a]!) e i2 (j)
              generalize scanDown (fun x => !ahead x e[a]!) e i2 (j) = j2 at *
              by_cases hgt : j2 < i2
              · have hgt' : (j2 : Int) < (i2 : Int) := by omega
                rw [if_pos hgt] at h12
                have x1 := rw_at (d := e) (i := j2) (by omega)
                have x2 := rw_at (d := e) (i := a) (by omega)
                obtain ⟨u, v, x3⟩ := rw_set_at (d := e) (i := j2) (j := a) (x := e[a]!) (by omega)
                have l1 : j2 < N := by omega
                have l2 : a < N := by omega
                simp +contextual -implicitDefEqProofs (maxSteps := 2000000) only [↓wP, wQ, wQ1, wQ2, wQ3, wR, boxE, partsOf, ↓reduceIte, Nat.reduceEqDiff, Nat.reduceAdd, Nat.reduceSub, Nat.reduceLeDiff, Nat.reduceLT, Nat.reduceMul, reduceCtorEq, Int.reduceBNe, Int.reduceBEq, Int.reduceLT, Int.reduceLE, Int.reduceGT, h2, h3, h4, h5, h6, hgt', x1, x2, x3, l1, l2, hat]
                have := hR j2 e h12 h10 (by omega)
                exact this _ (h11.swp _ _)
              · have hgt' : ¬ (j2 : Int) < (i2 : Int) := by omega
                rw [if_neg hgt] at h12
                have wi : IntKind.i64.wrap ((i2 : Int) + 1) = ((i2 + 1 : Nat) : Int) := by rw [wrap_i64] <;> omega
                have wj : IntKind.i64.wrap ((j2 : Int) - 1) = ((j2 - 1 : Nat) : Int) := by rw [wrap_i64] <;> omega
                have x1 := rw_at (d := e) (i := i2) (by omega)
                have x2 := rw_at (d := e) (i := j2) (by omega)
                obtain ⟨u, v, x3⟩ := rw_set_at (d := e) (i := i2) (j := j2) (x := e[j2]!) (by omega)
                have l1 : i2 < N := by omega
                have l2 : j2 < N := by omega
                simp +contextual -implicitDefEqProofs (maxSteps := 2000000) only [↓wP, wQ, wQ1, wQ2, wQ3, wR, boxE, partsOf, ↓reduceIte, Nat.reduceEqDiff, Nat.reduceAdd, Nat.reduceSub, Nat.reduceLeDiff, Nat.reduceLT, Nat.reduceMul, reduceCtorEq, Int.reduceBNe, Int.reduceBEq, Int.reduceLT, Int.reduceLE, Int.reduceGT, h2, h3, h4, h5, h6, hgt', wi, wj, x1, x2, x3, l1, l2, hat]
                refine ⟨((i2 + 1, j2 - 1), swp e i2 j2), by dsimp only; omega, rfl, rfl, by dsimp only; omega, by dsimp only; omega, by dsimp only; omega, by rw [swp_size, h10], h11.swp _ _, h12⟩
            · simp +contextual -implicitDefEqProofs (maxSteps := 2000000) only [↓wP, wQ, wQ1, wQ2, wQ3, wR, boxE, partsOf, ↓reduceIte, Nat.reduceEqDiff, Nat.reduceAdd, Nat.reduceSub, Nat.reduceLeDiff, Nat.reduceLT, Nat.reduceMul, reduceCtorEq, Int.reduceBNe, Int.reduceBEq, Int.reduceLT, Int.reduceLE, Int.reduceGT, h2, h3, h4, h5, h6]
              exact k8
          · simp +contextual -implicitDefEqProofs (maxSteps := 2000000) only [↓wP, wQ, wQ1, wQ2, wQ3, wR, boxE, partsOf, ↓reduceIte, Nat.reduceEqDiff, Nat.reduceAdd, Nat.reduceSub, Nat.reduceLeDiff, Nat.reduceLT, Nat.reduceMul, reduceCtorEq, Int.reduceBNe, Int.reduceBEq, Int.reduceLT, Int.reduceLE, Int.reduceGT, h2, h3, h4, h5, h6]
            omega
        · simp +contextual -implicitDefEqProofs (maxSteps := 2000000) only [↓wP, wQ, wQ1, wQ2, wQ3, wR, boxE, partsOf, ↓reduceIte, Nat.reduceEqDiff, Nat.reduceAdd, Nat.reduceSub, Nat.reduceLeDiff, Nat.reduceLT, Nat.reduceMul, reduceCtorEq, Int.reduceBNe, Int.reduceBEq, Int.reduceLT, Int.reduceLE, Int.reduceGT, h2, h3, h4, h5, h6]
          exact ⟨by omega, by omega, by omega, hs1, hat1⟩
    · simp +contextual -implicitDefEqProofs (maxSteps := 2000000) only [↓wP, wQ, wQ1, wQ2, wQ3, wR, boxE, partsOf, ↓reduceIte, Nat.reduceEqDiff, Nat.reduceAdd, Nat.reduceSub, Nat.reduceLeDiff, Nat.reduceLT, Nat.reduceMul, reduceCtorEq, Int.reduceBNe, Int.reduceBEq, Int.reduceLT, Int.reduceLE, Int.reduceGT, h2, h3, h4, h5, h6]
      exact k8
  · simp +contextual -implicitDefEqProofs (maxSteps := 2000000) only [↓wP, wQ, wQ1, wQ2, wQ3, wR, boxE, partsOf, ↓reduceIte, Nat.reduceEqDiff, Nat.reduceAdd, Nat.reduceSub, Nat.reduceLeDiff, Nat.reduceLT, Nat.reduceMul, reduceCtorEq, Int.reduceBNe, Int.reduceBEq, Int.reduceLT, Int.reduceLE, Int.reduceGT, h2, h3, h4, h5, h6]
    omega

end Go.Q.S11
end

section
/- The first hits of a row: plain laws. -/
set_option linter.unusedSimpArgs false
set_option linter.unusedVariables false
namespace Go.Q.S11
open Go.Q Go.Sort

theorem ah_iff (a b : Hit) : ahead a b = true ↔ (a.d < b.d ∨ (a.d = b.d ∧ a.id < b.id)) := by simp [ahead]
theorem ah_not (a b : Hit) : ahead a b = false ↔ ¬ (a.d < b.d ∨ (a.d = b.d ∧ a.id < b.id)) := by rw [← ah_iff, Bool.not_eq_true]
theorem swoA : SWO ahead where
  irrefl := fun x => by rw [ah_not]; omega
  trans := fun x y z h1 h2 => by rw [ah_iff] at *; omega
  ntrans := fun x y z h1 h2 => by rw [ah_not] at *; omega
theorem ah_anti {x y : Hit} (h1 : ahead x y = false) (h2 : ahead y x = false) : x = y := by
  rw [ah_not] at *
  obtain ⟨i, d⟩ := x
  obtain ⟨j, e⟩ := y
  simp only at *
  have : i = j := by omega
  have : d = e := by omega
  subst_vars
  rfl

/-- A hit is put ahead of the first one that it stands ahead of. -/
def ins (h : Hit) : List Hit → List Hit
  | [] => [h]
  | x :: s => if ahead h x = true then h :: x :: s else x :: ins h s
def srt (l : List Hit) : List Hit := l.foldl (fun s h => ins h s) []
def fst' (k : Nat) (l : List Hit) : List Hit := (srt l).take k
/-- In order. -/
def Srt (s : List Hit) : Prop := s.Pairwise fun a b => ahead b a = false

theorem ins_len (h : Hit) : ∀ s, (ins h s).length = s.length + 1
  | [] => rfl
  | x :: s => by
    unfold ins
    split
    · rfl
    · simp [ins_len h s]
theorem ins_perm (h : Hit) : ∀ s, (ins h s).Perm (h :: s)
  | [] => .refl _
  | x :: s => by
    unfold ins
    split
    · exact .refl _
    · exact ((ins_perm h s).cons x).trans (.swap h x s)
theorem ins_srt (h : Hit) : ∀ s, Srt s → Srt (ins h s)
  | [], _ => List.pairwise_singleton _ _
  | x :: s, hs => by
    unfold Srt at hs
    rw [List.pairwise_cons] at hs
    unfold ins
    split
    · rename_i hx
      refine List.pairwise_cons.2 ⟨fun y hy => ?_, List.pairwise_cons.2 hs⟩
      rcases List.mem_cons.1 hy with rfl | hy
      · exact swoA.asymm hx
      · have h1 := hs.1 y hy
        have h2 := swoA.asymm hx
        exact swoA.ntrans _ _ _ h1 h2
    · rename_i hx
      refine List.pairwise_cons.2 ⟨fun y hy => ?_, ins_srt h s hs.2⟩
      rcases List.mem_cons.1 ((ins_perm h s).mem_iff.1 hy) with rfl | hy
      · simpa using hx
      · exact hs.1 y hy
theorem fold_perm : ∀ (l s : List Hit), (l.foldl (fun s h => ins h s) s).Perm (s ++ l)
  | [], s => by simp
  | h :: l, s => by
    refine (fold_perm l (ins h s)).trans ?_
    refine ((ins_perm h s).append_right l).trans ?_
    simp only [List.cons_append]
    exact List.perm_middle.symm
theorem fold_srt : ∀ (l s : List Hit), Srt s → Srt (l.foldl (fun s h => ins h s) s)
  | [], s, h => h
  | x :: l, s, h => fold_srt l _ (ins_srt x s h)
theorem srt_perm (l : List Hit) : (srt l).Perm l := by simpa [srt] using fold_perm l []
theorem srt_srt (l : List Hit) : Srt (srt l) := fold_srt l [] List.Pairwise.nil
theorem srt_len (l : List Hit) : (srt l).length = l.length := (srt_perm l).length_eq
theorem srt_snoc (l : List Hit) (h : Hit) : srt (l ++ [h]) = ins h (srt l) := by simp [srt, List.foldl_append]
theorem fst_len (k : Nat) (l : List Hit) : (fst' k l).length = min k l.length := by simp [fst', srt_len]

theorem Srt.uniq : ∀ {s t : List Hit}, Srt s → Srt t → s.Perm t → s = t
  | [], t, _, _, h => (List.nil_perm.1 h).symm
  | x :: s, t, hs, ht, h => by
    cases t with
    | nil => exact absurd h.symm.nil_eq (by simp)
    | cons y t =>
      unfold Srt at hs ht
      rw [List.pairwise_cons] at hs ht
      have e : x = y := by
        rcases List.mem_cons.1 (h.mem_iff.1 (List.mem_cons_self (a := x) (l := s))) with e | e
        · exact e
        · rcases List.mem_cons.1 (h.mem_iff.2 (List.mem_cons_self (a := y) (l := t))) with e' | e'
          · exact e'.symm
          · exact ah_anti (ht.1 _ e) (hs.1 _ e')
      subst e
      rw [Srt.uniq hs.2 ht.2 (List.perm_cons x |>.1 h)]
theorem srt_of_perm {l l' : List Hit} (h : l.Perm l') : srt l = srt l' := Srt.uniq (srt_srt l) (srt_srt l') (((srt_perm l).trans h).trans (srt_perm l').symm)
theorem srt_id {l : List Hit} (h : Srt l) : srt l = l := Srt.uniq (srt_srt l) h (srt_perm l)
theorem fst_of_perm {l l' : List Hit} (k : Nat) (h : l.Perm l') : fst' k l = fst' k l' := by rw [fst', fst', srt_of_perm h]

theorem take_ins (h : Hit) : ∀ (k : Nat) (s : List Hit), (ins h s).take k = (ins h (s.take k)).take k
  | 0, s => by simp
  | k + 1, [] => by simp
  | k + 1, x :: s => by
    simp only [ins, List.take_succ_cons]
    split
    · simp only [List.take_succ_cons]
      cases k with
      | zero => simp
      | succ k => simp [List.take_take]
    · simp only [List.take_succ_cons]
      rw [take_ins h k s]
theorem fst_snoc (k : Nat) (l : List Hit) (h : Hit) : fst' k (l ++ [h]) = (ins h (fst' k l)).take k := by
  rw [fst', fst', srt_snoc, take_ins]
theorem take_fold : ∀ (k : Nat) (l s : List Hit), (l.foldl (fun s h => ins h s) s).take k = (l.foldl (fun s h => ins h s) (s.take k)).take k
  | k, [], s => by simp [List.take_take]
  | k, x :: l, s => by
    simp only [List.foldl_cons]
    rw [take_fold k l (ins x s), take_fold k l (ins x (s.take k)), take_ins]
theorem Srt.take {s : List Hit} (h : Srt s) (k : Nat) : Srt (s.take k) := List.Pairwise.sublist (List.take_sublist k s) h
theorem fst_srt (k : Nat) (l : List Hit) : Srt (fst' k l) := (srt_srt l).take k
/-- The first ones of two rows are those of the first one's first ones and of the second. -/
theorem fst_app (k : Nat) (l l' : List Hit) : fst' k (l ++ l') = fst' k (fst' k l ++ l') := by
  unfold fst'
  have e : ∀ m : List Hit, srt (m ++ l') = l'.foldl (fun s h => ins h s) (srt m) := fun m => by simp [srt, List.foldl_append]
  rw [e, e, take_fold k l' (srt l), srt_id ((srt_srt l).take k)]
theorem fst_app2 (k : Nat) (l l' : List Hit) : fst' k (l ++ l') = fst' k (fst' k l ++ fst' k l') := by
  rw [fst_app, fst_of_perm k List.perm_append_comm, fst_app, fst_of_perm k List.perm_append_comm]

/-- Whom none of these stands behind stands at their end. -/
theorem ins_end (h : Hit) : ∀ s : List Hit, (∀ x ∈ s, ahead h x = false) → ins h s = s ++ [h]
  | [], _ => rfl
  | x :: s, hs => by
    unfold ins
    rw [if_neg (by simp [hs x (by simp)]), ins_end h s (fun y hy => hs y (by simp [hy]))]
    rfl
theorem fst_out {k : Nat} {l : List Hit} {h : Hit} (hk : (fst' k l).length = k) (hh : ∀ x ∈ fst' k l, ahead h x = false) : fst' k (l ++ [h]) = fst' k l := by
  rw [fst_snoc, ins_end h _ hh, List.take_left' hk]

/-! A heap. -/
def Hp (n : Nat) (e : Array Hit) : Prop := ∀ i, 0 < i → i < n → ahead e[(i - 1) / 2]! e[i]! = false
def HpUp (n j : Nat) (e : Array Hit) : Prop := (∀ i, 0 < i → i < n → i ≠ j → ahead e[(i - 1) / 2]! e[i]! = false) ∧
  ∀ i, 0 < i → i < n → (i - 1) / 2 = j → 0 < j → ahead e[(j - 1) / 2]! e[i]! = false
def HpDn (n i : Nat) (e : Array Hit) : Prop := (∀ c, 0 < c → c < n → (c - 1) / 2 ≠ i → ahead e[(c - 1) / 2]! e[c]! = false) ∧
  ∀ c, 0 < c → c < n → (c - 1) / 2 = i → 0 < i → ahead e[(i - 1) / 2]! e[c]! = false

theorem HpUp.stop {n j : Nat} {e : Array Hit} (h : HpUp n j e) (hs : j = 0 ∨ ahead e[(j - 1) / 2]! e[j]! = false) : Hp n e := by
  intro i h0 hn
  by_cases hi : i = j
  · subst hi
    rcases hs with hs | hs
    · omega
    · exact hs
  · exact h.1 i h0 hn hi
theorem HpUp.step {n j : Nat} {e : Array Hit} (h : HpUp n j e) (hj : 0 < j) (hn : j < n) (hz : n ≤ e.size) (hl : ahead e[(j - 1) / 2]! e[j]! = true) : HpUp n ((j - 1) / 2) (swp e ((j - 1) / 2) j) := by
  have hp : (j - 1) / 2 < j := by omega
  have g : ∀ k, (swp e ((j - 1) / 2) j)[k]! = if k = j then e[(j - 1) / 2]! else if k = (j - 1) / 2 then e[j]! else e[k]! := by
    intro k
    by_cases h1 : k = j
    · subst h1; rw [if_pos rfl, swp_right _ _ _ (by omega)]
    · by_cases h2 : k = (j - 1) / 2
      · rw [if_neg h1, if_pos h2, h2, swp_left _ _ _ (by omega) (by omega)]
      · rw [if_neg h1, if_neg h2, swp_other _ _ _ _ h2 h1]
  refine ⟨fun i h0 hi hne => ?_, fun i h0 hi hpi hp0 => ?_⟩
  · rw [g, g]
    by_cases h1 : i = j
    · subst h1
      rw [if_pos rfl, if_neg (by omega), if_pos rfl]
      exact swoA.asymm hl
    · rw [if_neg h1, if_neg hne]
      by_cases h2 : (i - 1) / 2 = j
      · rw [if_pos h2]; exact h.2 i h0 hi h2 hj
      · rw [if_neg h2]
        by_cases h3 : (i - 1) / 2 = (j - 1) / 2
        · rw [if_pos h3]
          have := h.1 i h0 hi h1
          rw [h3] at this
          exact swoA.ntrans _ _ _ (swoA.asymm hl) this
        · rw [if_neg h3]; exact h.1 i h0 hi h1
  · rw [g, g]
    have hpp := h.1 ((j - 1) / 2) hp0 (by omega) (by omega)
    rw [if_neg (show ¬ ((j - 1) / 2 - 1) / 2 = j by omega), if_neg (show ¬ ((j - 1) / 2 - 1) / 2 = (j - 1) / 2 by omega)]
    by_cases h1 : i = j
    · rw [if_pos h1]; exact hpp
    · rw [if_neg h1, if_neg (by omega)]
      have := h.1 i h0 hi h1
      rw [hpi] at this
      exact swoA.ntrans _ _ _ hpp this

theorem HpDn.step {n i j : Nat} {e : Array Hit} (h : HpDn n i e) (hji : (j - 1) / 2 = i) (hj : 0 < j) (hn : j < n) (hz : n ≤ e.size) (hl : ahead e[i]! e[j]! = true)
    (hb : ∀ c, 0 < c → c < n → (c - 1) / 2 = i → ahead e[j]! e[c]! = false) : HpDn n j (swp e i j) := by
  have hp : i < j := by omega
  have g : ∀ k, (swp e i j)[k]! = if k = j then e[i]! else if k = i then e[j]! else e[k]! := by
    intro k
    by_cases h1 : k = j
    · subst h1; rw [if_pos rfl, swp_right _ _ _ (by omega)]
    · by_cases h2 : k = i
      · rw [if_neg h1, if_pos h2, h2, swp_left _ _ _ (by omega) (by omega)]
      · rw [if_neg h1, if_neg h2, swp_other _ _ _ _ h2 h1]
  refine ⟨fun c h0 hc hne => ?_, fun c h0 hc hpc hp0 => ?_⟩
  · rw [g, g, if_neg hne]
    by_cases h1 : (c - 1) / 2 = i
    · rw [if_pos h1]
      by_cases h2 : c = j
      · rw [if_pos h2]; exact swoA.asymm hl
      · rw [if_neg h2, if_neg (by omega)]; exact hb c h0 hc h1
    · rw [if_neg h1]
      by_cases h2 : c = j
      · omega
      · rw [if_neg h2]
        by_cases h3 : c = i
        · rw [if_pos h3]
          subst h3
          exact h.2 j hj hn hji h0
        · rw [if_neg h3]; exact h.1 c h0 hc h1
  · rw [g, g, hji, if_neg (by omega), if_pos rfl, if_neg (by omega), if_neg (by omega)]
    have := h.1 c h0 hc (by omega)
    rw [hpc] at this
    exact this
theorem HpDn.stop {n i : Nat} {e : Array Hit} (h : HpDn n i e) (hs : ∀ c, 0 < c → c < n → (c - 1) / 2 = i → ahead e[i]! e[c]! = false) : Hp n e := by
  intro c h0 hc
  by_cases h1 : (c - 1) / 2 = i
  · rw [h1]; exact hs c h0 hc h1
  · exact h.1 c h0 hc h1
theorem Hp.max {n : Nat} {e : Array Hit} (h : Hp n e) : ∀ i, i < n → ahead e[0]! e[i]! = false := by
  intro i
  induction i using Nat.strongRecOn with
  | _ i ih =>
    intro hi
    by_cases h0 : i = 0
    · subst h0; exact swoA.irrefl _
    · exact swoA.ntrans _ _ _ (ih ((i - 1) / 2) (by omega) (by omega)) (h i (by omega) hi)

/-- The last one of hits in order. -/
theorem Srt.last {s : List Hit} {m : Hit} (h : Srt (s ++ [m])) : ∀ x ∈ s, ahead m x = false := by
  intro x hx
  exact (List.pairwise_append.1 h).2.2 x hx m (by simp)
/-- Without its greatest one a row is the first ones but the last. -/
theorem drop_max {s t : List Hit} {m : Hit} (hs : Srt s) (hp : s.Perm (t ++ [m])) (hm : ∀ x ∈ t, ahead m x = false) : t.Perm (s.take t.length) := by
  have h1 : Srt (srt t ++ [m]) := by
    refine List.pairwise_append.2 ⟨srt_srt t, List.pairwise_singleton _ _, fun a ha b hb => ?_⟩
    rw [List.mem_singleton] at hb
    subst hb
    exact hm a ((srt_perm t).mem_iff.1 ha)
  have h2 : s = srt t ++ [m] := Srt.uniq hs h1 (hp.trans ((srt_perm t).symm.append_right [m]))
  rw [h2, List.take_left' (srt_len t)]
  exact (srt_perm t).symm

end Go.Q.S11
end

section
/- A sort of few. -/
set_option linter.unusedSimpArgs false
set_option linter.unusedVariables false
namespace Go.Q.S11
open Go.Q Go.Sort

theorem raw44N {d : Array Hit} {N : Nat} (hN : d.size = N) (a b id n : Nat) (σ : Sto) (hab : a ≤ b) (hb : b ≤ N) (hn : N < 1000000) (hσ : σ id = some (.row 2 (rw' d))) {Q : V → Sto → Nat → Prop}
    (hQ : ∀ σ', At σ' σ id (insertionSort ahead d a b) → Q .undef σ' n) :
    run T (.raw 93 [.ref id 0 N 2, .int .i64 (a : Int), .int .i64 (b : Int), .fn 24 []] σ n 0) (memQ Q) := by subst hN; exact raw93 d a b id n σ hab hb hn hσ hQ
theorem raw46N {d : Array Hit} {N : Nat} (hN : d.size = N) (a b id n : Nat) (σ : Sto) (h8 : 8 ≤ b - a) (h60 : b - a < 60) (hb : b ≤ N) (hn : N < 1000000) (hid : id < n) (hσ : σ id = some (.row 2 (rw' d))) {Q : V → Sto → Nat → Prop}
    (hQ : ∀ σ' d' n', n ≤ n' → σ' id = some (.row 2 (rw' d')) → (∀ i, i ≠ id → i < n → σ' i = σ i) → PermIn a b d d' → Q .undef σ' n') :
    run T (.raw 95 [.ref id 0 N 2, .int .i64 (a : Int), .int .i64 (b : Int), .fn 24 []] σ n 0) (memQ Q) := by subst hN; exact raw95 d a b id n σ h8 h60 hb hn hid hσ hQ
theorem raw48N {d : Array Hit} {N : Nat} (hN : d.size = N) (a b id n : Nat) (σ : Sto) (hab : a < b) (hb : b ≤ N) (hn : N < 1000000) (hσ : σ id = some (.row 2 (rw' d))) {Q : V → Sto → Nat → Prop}
    (hQ : ∀ σ' d', At σ' σ id d' → PermIn a b d d' → Q .undef σ' n) :
    run T (.raw 97 [.ref id 0 N 2, .int .i64 (a : Int), .int .i64 (b : Int), .fn 24 []] σ n 0) (memQ Q) := by subst hN; exact raw97 d a b id n σ hab hb hn hσ hQ
theorem raw49N {d : Array Hit} {N : Nat} (hN : d.size = N) (a b id n : Nat) (σ : Sto) (hab : a < b) (h50 : b - a < 50) (hb : b ≤ N) (hn : N < 1000000) (hσ : σ id = some (.row 2 (rw' d))) {Q : V → Sto → Nat → Prop}
    (hQ : ∀ r : Bool, (r = true → SortedIn ahead a b d) → Q (.bool r) σ n) :
    run T (.raw 98 [.ref id 0 N 2, .int .i64 (a : Int), .int .i64 (b : Int), .fn 24 []] σ n 0) (memQ Q) := by subst hN; exact raw98 d a b id n σ swoA hab h50 hb hn hσ hQ
theorem raw50N {d : Array Hit} {N : Nat} (hN : d.size = N) (a b p id n : Nat) (σ : Sto) (hap : a ≤ p) (hpb : p < b) (hb : b ≤ N) (hn : N < 1000000) (hσ : σ id = some (.row 2 (rw' d))) {Q : V → Sto → Nat → Prop}
    (hQ : ∀ σ', At σ' σ id (partitionEqual ahead d a b p).2 → Q (.int .i64 ((partitionEqual ahead d a b p).1 : Int)) σ' n) :
    run T (.raw 99 [.ref id 0 N 2, .int .i64 (a : Int), .int .i64 (b : Int), .int .i64 (p : Int), .fn 24 []] σ n 0) (memQ Q) := by subst hN; exact raw99 d a b p id n σ hap hpb hb hn hσ hQ
theorem raw51N {d : Array Hit} {N : Nat} (hN : d.size = N) (a b p id n : Nat) (σ : Sto) (hap : a ≤ p) (hpb : p < b) (hb : b ≤ N) (hn : N < 1000000) (hσ : σ id = some (.row 2 (rw' d))) {Q : V → Sto → Nat → Prop}
    (hQ : ∀ σ', At σ' σ id (partition ahead d a b p).2.2 → Q (.tup [.int .i64 ((partition ahead d a b p).1 : Int), .bool (partition ahead d a b p).2.1]) σ' n) :
    run T (.raw 100 [.ref id 0 N 2, .int .i64 (a : Int), .int .i64 (b : Int), .int .i64 (p : Int), .fn 24 []] σ n 0) (memQ Q) := by subst hN; exact raw100 d a b p id n σ hap hpb hb hn hσ hQ

theorem frz_row {d : Array Hit} {N id : Nat} {σ : Sto} (hN : d.size = N) (h : σ id = some (.row 2 (rw' d))) (k : Nat) : frz σ (k + 3) (.ref id 0 N 2) = some (.sl 2 (rw' d)) := by
  have hl : N = (rw' d).length := by rw [rw_len, hN]
  rw [hl]
  refine (Fz.ref (S := fun _ => True) h trivial (FzL.trees ?_ ?_)).1
  · intro x hx
    unfold rw' at hx
    obtain ⟨y, -, rfl⟩ := List.mem_map.1 hx
    rfl
  · intro x hx c hc
    unfold rw' at hx
    obtain ⟨y, -, rfl⟩ := List.mem_map.1 hx
    simp only [hitV, V.cells, List.mem_cons, List.not_mem_nil, or_false] at hc
    rcases hc with rfl | rfl <;> rfl

theorem f96 (d : Array Hit) (a b id N : Nat) (σ : Sto) (n lk : Nat) (hN : d.size = N) (hσ : σ id = some (.row 2 (rw' d))) (hab : a < b) (hb : b ≤ N) (h50 : b - a < 50) (hn : N < 1000000) :
    ∃ (p : Nat) (h : Int), a ≤ p ∧ p < b ∧ (h = 0 ∨ h = 1 ∨ h = 2) ∧ callE T true 96 [.ref id 0 N 2, .int .i64 (a : Int), .int .i64 (b : Int), .fn 24 []] σ n lk = some (.tup [.int .i64 (p : Int), .int .i64 h], σ, n) := by
  obtain ⟨p, h, h1, h2, h3, h4⟩ := r96 d a b hab (by omega) h50 (by omega)
  refine ⟨p, h, h1, h2, h3, ?_⟩
  rw [callE_eq (by decide)]
  have e : [V.ref id 0 N 2, .int .i64 (a : Int), .int .i64 (b : Int), .fn 24 []].mapM (frz σ 12) = some [.sl 2 (rw' d), .int .i64 (a : Int), .int .i64 (b : Int), .fn 24 []] := by
    simp only [List.mapM_cons, List.mapM_nil, frz_row hN hσ 9, frz_int, frz_fn]
    rfl
  rw [e, callR_some, h4, retE_some, backE_flat rfl]
  rfl

/-- What is known of a sort under way. -/
def Pdq (c L N a0 b0 : Nat) (d : Array Hit) (a b lim : Nat) (e : Array Hit) : Prop :=
  a ≤ b ∧ b ≤ N ∧ b - a ≤ L ∧ b - a < 50 ∧ b - a ≤ c + lim ∧ lim < 1000 ∧ e.size = N ∧ Below ahead a b e ∧
  ∀ R, PermIn a b e R → SortedIn ahead a b R → PermIn a0 b0 d R ∧ SortedIn ahead a0 b0 R
theorem Pdq.perm {c L N a0 b0 a b lim : Nat} {d e e' : Array Hit} (h : Pdq c L N a0 b0 d a b lim e) (hp : PermIn a b e e') : Pdq c L N a0 b0 d a b lim e' := by
  obtain ⟨h1, h2, h3, h4, h5, h6, h7, h8, h9⟩ := h
  exact ⟨h1, h2, h3, h4, h5, h6, by rw [hp.1, h7], h8.perm (by omega) hp, fun R hR hs => h9 R (permIn_trans _ _ _ _ _ hp hR) hs⟩

theorem bin_quo8 (m : Nat) (h : m < 9223372036854775808) : binV .quo (.int .i64 (m : Int)) (.int .i64 8) = some (.int .i64 ((m / 8 : Nat) : Int)) := by
  rw [bin_quo .i64 (m : Int) 8 (by decide)]
  have e : (m : Int).tdiv 8 = ((m / 8 : Nat) : Int) := rfl
  rw [e, wrap_nat (by omega)]

def Sorts (L : Nat) : Prop := ∀ (d : Array Hit) (a b lim id n N : Nat) (σ : Sto), b - a < L → a ≤ b → b - a < 50 → b - a ≤ 12 + lim → b ≤ N → N < 1000000 → lim < 1000 → id < n → d.size = N → σ id = some (.row 2 (rw' d)) →
    Below ahead a b d → ∀ {Q : V → Sto → Nat → Prop}, (∀ σ' d' n', n ≤ n' → σ' id = some (.row 2 (rw' d')) → (∀ i, i ≠ id → i < n → σ' i = σ i) → PermIn a b d d' → SortedIn ahead a b d' → Q .undef σ' n') →
    run T (.raw 86 [.ref id 0 N 2, .int .i64 (a : Int), .int .i64 (b : Int), .int .i64 (lim : Int), .fn 24 []] σ n 0) (memQ Q)
theorem raw86_step (L : Nat) (ih : Sorts L) : Sorts (L + 1) := by
  intro d a b lim id n N σ hL hab h50 h12 hb hn hlim hid hN hσ hB Q hQ
  refine run_rawE (fn := g86) rfl rfl ?_
  simp only [g86, b86]
  simp +contextual -implicitDefEqProofs (maxSteps := 2000000) only [↓wP, wQ, wQ1, wQ2, wQ3, wR, boxE, partsOf, ↓reduceIte, Nat.reduceEqDiff, Nat.reduceAdd, Nat.reduceSub, Nat.reduceLeDiff, Nat.reduceLT, Nat.reduceMul, reduceCtorEq, Int.reduceBNe, Int.reduceBEq, Int.reduceLT, Int.reduceLE, Int.reduceGT]
  refine WC_loopI 0 (fun (s : (Nat × Nat) × Nat) env σ' n' => n ≤ n' ∧ env 0 = .ref id 0 N 2 ∧ env 1 = .int .i64 (s.1.1 : Int) ∧ env 2 = .int .i64 (s.1.2 : Int) ∧ env 3 = .int .i64 (s.2 : Int) ∧ env 4 = .fn 24 [] ∧
      (∃ wb, env 10 = .bool wb) ∧ (∃ wp, env 11 = .bool wp) ∧ (∀ i, i ≠ id → i < n → σ' i = σ i) ∧ ∃ e, Pdq 12 L N a b d s.1.1 s.1.2 s.2 e ∧ σ' id = some (.row 2 (rw' e))) (fun s => s.1.2 - s.1.1) ?_ ((a, b), lim) _ _ _ ?_
  · intro ⟨⟨a', b'⟩, lim'⟩ env σ1 n1 ⟨h1, h2, h3, h4, h5, h6, ⟨wb, h7⟩, ⟨wp, h8⟩, hf, e, hp, h9⟩
    dsimp only at h3 h4 h5 hp
    obtain ⟨p1, p2, p3, p4, p5, p6, p7, p8, p9⟩ := hp
    have hp : Pdq 12 L N a b d a' b' lim' e := ⟨p1, p2, p3, p4, p5, p6, p7, p8, p9⟩
    have w1 : IntKind.i64.wrap ((b' : Int) - (a' : Int)) = ((b' - a' : Nat) : Int) := by rw [wrap_i64] <;> omega
    by_cases hle : b' - a' ≤ 12
    · have hle' : ((b' - a' : Nat) : Int) ≤ 12 := by omega
      simp +contextual -implicitDefEqProofs (maxSteps := 2000000) only [↓wP, wQ, wQ1, wQ2, wQ3, wR, boxE, partsOf, ↓reduceIte, Nat.reduceEqDiff, Nat.reduceAdd, Nat.reduceSub, Nat.reduceLeDiff, Nat.reduceLT, Nat.reduceMul, reduceCtorEq, Int.reduceBNe, Int.reduceBEq, Int.reduceLT, Int.reduceLE, Int.reduceGT, h2, h3, h4, h5, h6, w1, hle']
      refine stepW_raw (by decide) (raw44N p7 a' b' id n1 σ1 p1 p2 hn h9 fun σ2 hat => ?_)
      simp +contextual -implicitDefEqProofs (maxSteps := 2000000) only [↓wP, wQ, wQ1, wQ2, wQ3, wR, boxE, partsOf, ↓reduceIte, Nat.reduceEqDiff, Nat.reduceAdd, Nat.reduceSub, Nat.reduceLeDiff, Nat.reduceLT, Nat.reduceMul, reduceCtorEq, Int.reduceBNe, Int.reduceBEq, Int.reduceLT, Int.reduceLE, Int.reduceGT]
      have hs := insertionSort_holds (lt := ahead) swoA e a' b' p1 (by omega)
      have hR := p9 _ hs.1 hs.2
      exact hQ _ _ _ h1 hat.1 (fun i hi hin => by rw [hat.2 i hi, hf i hi hin]) hR.1 hR.2
    · have hle' : ¬ ((b' - a' : Nat) : Int) ≤ 12 := by omega
      have hl0 : ((lim' : Int) == 0) = false := by simp; omega
      simp +contextual -implicitDefEqProofs (maxSteps := 2000000) only [↓wP, wQ, wQ1, wQ2, wQ3, wR, boxE, partsOf, ↓reduceIte, Nat.reduceEqDiff, Nat.reduceAdd, Nat.reduceSub, Nat.reduceLeDiff, Nat.reduceLT, Nat.reduceMul, reduceCtorEq, Int.reduceBNe, Int.reduceBEq, Int.reduceLT, Int.reduceLE, Int.reduceGT, h2, h3, h4, h5, h6, h7, h8, w1, hle', hl0]
      refine condC_cut (fun env' σ' n' => ∃ lim1 e1, n1 ≤ n' ∧ env' 0 = .ref id 0 N 2 ∧ env' 1 = .int .i64 (a' : Int) ∧ env' 2 = .int .i64 (b' : Int) ∧ env' 3 = .int .i64 ((lim1 : Nat) : Int) ∧ env' 4 = .fn 24 [] ∧
          env' 10 = .bool wb ∧ env' 11 = .bool wp ∧ env' 12 = .int .i64 ((b' - a' : Nat) : Int) ∧ lim' ≤ lim1 + 1 ∧ lim1 ≤ lim' ∧ σ' id = some (.row 2 (rw' e1)) ∧ PermIn a' b' e e1 ∧ (∀ i, i ≠ id → i < n → σ' i = σ i)) ?_ ?_ ?_
      · intro hx
        have wl : IntKind.i64.wrap ((lim' : Int) - 1) = ((lim' - 1 : Nat) : Int) := by rw [wrap_i64] <;> omega
        simp +contextual -implicitDefEqProofs (maxSteps := 2000000) only [↓wP, wQ, wQ1, wQ2, wQ3, wR, boxE, partsOf, ↓reduceIte, Nat.reduceEqDiff, Nat.reduceAdd, Nat.reduceSub, Nat.reduceLeDiff, Nat.reduceLT, Nat.reduceMul, reduceCtorEq, Int.reduceBNe, Int.reduceBEq, Int.reduceLT, Int.reduceLE, Int.reduceGT, h2, h3, h4, h5, h6, h7, h8]
        refine stepW_raw (by decide) (raw46N p7 a' b' id n1 σ1 (by omega) (by omega) p2 hn (by omega) h9 fun σ2 d2 n2 g1 g2 g3 g4 => ?_)
        simp +contextual -implicitDefEqProofs (maxSteps := 2000000) only [↓wP, wQ, wQ1, wQ2, wQ3, wR, boxE, partsOf, ↓reduceIte, Nat.reduceEqDiff, Nat.reduceAdd, Nat.reduceSub, Nat.reduceLeDiff, Nat.reduceLT, Nat.reduceMul, reduceCtorEq, Int.reduceBNe, Int.reduceBEq, Int.reduceLT, Int.reduceLE, Int.reduceGT, h2, h3, h4, h5, h6, h7, h8, wl]
        refine ⟨lim' - 1, d2, ?_⟩
        have : ∀ i, i ≠ id → i < n → σ2 i = σ i := fun i hi hin => by rw [g3 i hi (by omega), hf i hi hin]
        repeat' (first | assumption | rfl | omega | apply And.intro)
      · intro hx
        simp +contextual -implicitDefEqProofs (maxSteps := 2000000) only [↓wP, wQ, wQ1, wQ2, wQ3, wR, boxE, partsOf, ↓reduceIte, Nat.reduceEqDiff, Nat.reduceAdd, Nat.reduceSub, Nat.reduceLeDiff, Nat.reduceLT, Nat.reduceMul, reduceCtorEq, Int.reduceBNe, Int.reduceBEq, Int.reduceLT, Int.reduceLE, Int.reduceGT, h2, h3, h4, h5, h6, h7, h8]
        refine ⟨lim', e, ?_⟩
        have := permIn_refl e a' b'
        repeat' (first | assumption | rfl | omega | apply And.intro)
      · clear h2 h3 h4 h5 h6 h7 h8 hf h9
        intro env σ1 n2 ⟨lim1, e1, hn1, h2, h3, h4, h5, h6, h7, h8, hlen, hl1, hl2, h9, hpm, hf⟩
        have hp1 := hp.perm hpm
        obtain ⟨q1, q2, q3, q4, q5, q6, q7, q8, q9⟩ := hp1
        obtain ⟨p, hh, hp1', hp2', hh3, h47⟩ := f96 e1 a' b' id N σ1 n2 0 q7 h9 (by omega) q2 q4 hn
        simp +contextual -implicitDefEqProofs (maxSteps := 2000000) only [↓wP, wQ, wQ1, wQ2, wQ3, wR, boxE, partsOf, ↓reduceIte, Nat.reduceEqDiff, Nat.reduceAdd, Nat.reduceSub, Nat.reduceLeDiff, Nat.reduceLT, Nat.reduceMul, reduceCtorEq, Int.reduceBNe, Int.reduceBEq, Int.reduceLT, Int.reduceLE, Int.reduceGT, h2, h3, h4, h5, h6, h7, h8, hlen, h47]
        refine condC_cut (fun env' σ' n' => ∃ (p' : Nat) (h' : Int) (e2 : Array Hit), n2 ≤ n' ∧ env' 0 = .ref id 0 N 2 ∧ env' 1 = .int .i64 (a' : Int) ∧ env' 2 = .int .i64 (b' : Int) ∧ env' 3 = .int .i64 ((lim1 : Nat) : Int) ∧ env' 4 = .fn 24 [] ∧
            env' 10 = .bool wb ∧ env' 11 = .bool wp ∧ env' 12 = .int .i64 ((b' - a' : Nat) : Int) ∧ env' 13 = .int .i64 (p' : Int) ∧ env' 14 = .int .i64 h' ∧ a' ≤ p' ∧ p' < b' ∧ σ' id = some (.row 2 (rw' e2)) ∧ PermIn a' b' e e2 ∧ (∀ i, i ≠ id → i < n → σ' i = σ i)) ?_ ?_ ?_
        · intro hx
          have wb1 : IntKind.i64.wrap ((b' : Int) - 1) = ((b' - 1 : Nat) : Int) := by rw [wrap_i64] <;> omega
          have wpa : IntKind.i64.wrap ((p : Int) - (a' : Int)) = ((p - a' : Nat) : Int) := by rw [wrap_i64] <;> omega
          have wpp : IntKind.i64.wrap (((b' - 1 : Nat) : Int) - ((p - a' : Nat) : Int)) = ((b' - 1 - (p - a') : Nat) : Int) := by rw [wrap_i64] <;> omega
          simp +contextual -implicitDefEqProofs (maxSteps := 2000000) only [↓wP, wQ, wQ1, wQ2, wQ3, wR, boxE, partsOf, ↓reduceIte, Nat.reduceEqDiff, Nat.reduceAdd, Nat.reduceSub, Nat.reduceLeDiff, Nat.reduceLT, Nat.reduceMul, reduceCtorEq, Int.reduceBNe, Int.reduceBEq, Int.reduceLT, Int.reduceLE, Int.reduceGT, h2, h3, h4, h5, h6, h7, h8, hlen]
          refine stepW_raw (by decide) (raw48N q7 a' b' id n2 σ1 (by omega) q2 hn h9 fun σ2 d2 g1 g2 => ?_)
          simp +contextual -implicitDefEqProofs (maxSteps := 2000000) only [↓wP, wQ, wQ1, wQ2, wQ3, wR, boxE, partsOf, ↓reduceIte, Nat.reduceEqDiff, Nat.reduceAdd, Nat.reduceSub, Nat.reduceLeDiff, Nat.reduceLT, Nat.reduceMul, reduceCtorEq, Int.reduceBNe, Int.reduceBEq, Int.reduceLT, Int.reduceLE, Int.reduceGT, h2, h3, h4, h5, h6, h7, h8, hlen, wb1, wpa, wpp]
          refine ⟨b' - 1 - (p - a'), 1, d2, ?_⟩
          have : ∀ i, i ≠ id → i < n → σ2 i = σ i := fun i hi hin => by rw [g1.2 i hi, hf i hi hin]
          have := permIn_trans _ _ _ _ _ hpm g2
          have := g1.1
          repeat' (first | assumption | rfl | omega | apply And.intro)
        · intro hx
          simp +contextual -implicitDefEqProofs (maxSteps := 2000000) only [↓wP, wQ, wQ1, wQ2, wQ3, wR, boxE, partsOf, ↓reduceIte, Nat.reduceEqDiff, Nat.reduceAdd, Nat.reduceSub, Nat.reduceLeDiff, Nat.reduceLT, Nat.reduceMul, reduceCtorEq, Int.reduceBNe, Int.reduceBEq, Int.reduceLT, Int.reduceLE, Int.reduceGT, h2, h3, h4, h5, h6, h7, h8, hlen]
          refine ⟨p, hh, e1, ?_⟩
          repeat' (first | assumption | rfl | omega | apply And.intro)
        · clear h2 h3 h4 h5 h6 h7 h8 hlen hpm hf h9 q1 q2 q3 q4 q5 q6 q7 q8 q9 h47
          intro env σ1 n3 ⟨p', h', e2, hn3, h2, h3, h4, h5, h6, h7, h8, hlen, h13, h14, hpa, hpb, h9, hpm, hf⟩
          obtain ⟨q1, q2, q3, q4, q5, q6, q7, q8, q9⟩ := hp.perm hpm
          simp +contextual -implicitDefEqProofs (maxSteps := 2000000) only [↓wP, wQ, wQ1, wQ2, wQ3, wR, boxE, partsOf, ↓reduceIte, Nat.reduceEqDiff, Nat.reduceAdd, Nat.reduceSub, Nat.reduceLeDiff, Nat.reduceLT, Nat.reduceMul, reduceCtorEq, Int.reduceBNe, Int.reduceBEq, Int.reduceLT, Int.reduceLE, Int.reduceGT, h2, h3, h4, h5, h6, h7, h8, hlen, h13, h14]
          refine condC_cut (fun env' σ' n' => n' = n3 ∧ σ' = σ1 ∧ env' 0 = .ref id 0 N 2 ∧ env' 1 = .int .i64 (a' : Int) ∧ env' 2 = .int .i64 (b' : Int) ∧ env' 3 = .int .i64 ((lim1 : Nat) : Int) ∧ env' 4 = .fn 24 [] ∧
              env' 10 = .bool wb ∧ env' 11 = .bool wp ∧ env' 12 = .int .i64 ((b' - a' : Nat) : Int) ∧ env' 13 = .int .i64 (p' : Int)) ?_ ?_ ?_
          · intro hx
            simp +contextual -implicitDefEqProofs (maxSteps := 2000000) only [↓wP, wQ, wQ1, wQ2, wQ3, wR, boxE, partsOf, ↓reduceIte, Nat.reduceEqDiff, Nat.reduceAdd, Nat.reduceSub, Nat.reduceLeDiff, Nat.reduceLT, Nat.reduceMul, reduceCtorEq, Int.reduceBNe, Int.reduceBEq, Int.reduceLT, Int.reduceLE, Int.reduceGT, h2, h3, h4, h5, h6, h7, h8, hlen, h13, h14]
            refine stepW_raw (by decide) (raw49N q7 a' b' id n3 σ1 (by omega) q4 q2 hn h9 fun r hr => ?_)
            cases r
            · simp +contextual -implicitDefEqProofs (maxSteps := 2000000) only [↓wP, wQ, wQ1, wQ2, wQ3, wR, boxE, partsOf, ↓reduceIte, Nat.reduceEqDiff, Nat.reduceAdd, Nat.reduceSub, Nat.reduceLeDiff, Nat.reduceLT, Nat.reduceMul, reduceCtorEq, Int.reduceBNe, Int.reduceBEq, Int.reduceLT, Int.reduceLE, Int.reduceGT, h2, h3, h4, h5, h6, h7, h8, hlen, h13, h14]
            · simp +contextual -implicitDefEqProofs (maxSteps := 2000000) only [↓wP, wQ, wQ1, wQ2, wQ3, wR, boxE, partsOf, ↓reduceIte, Nat.reduceEqDiff, Nat.reduceAdd, Nat.reduceSub, Nat.reduceLeDiff, Nat.reduceLT, Nat.reduceMul, reduceCtorEq, Int.reduceBNe, Int.reduceBEq, Int.reduceLT, Int.reduceLE, Int.reduceGT, h2, h3, h4, h5, h6, h7, h8, hlen, h13, h14]
              have hR := q9 e2 (permIn_refl _ _ _) (hr rfl)
              exact hQ _ _ _ (by omega) h9 hf hR.1 hR.2
          · intro hx
            simp +contextual -implicitDefEqProofs (maxSteps := 2000000) only [↓wP, wQ, wQ1, wQ2, wQ3, wR, boxE, partsOf, ↓reduceIte, Nat.reduceEqDiff, Nat.reduceAdd, Nat.reduceSub, Nat.reduceLeDiff, Nat.reduceLT, Nat.reduceMul, reduceCtorEq, Int.reduceBNe, Int.reduceBEq, Int.reduceLT, Int.reduceLE, Int.reduceGT, h2, h3, h4, h5, h6, h7, h8, hlen, h13, h14]
          · clear h2 h3 h4 h5 h6 h7 h8 hlen h13 h14
            intro env σ2 n4 ⟨hn4, hs4, h2, h3, h4, h5, h6, h7, h8, hlen, h13⟩
            subst hn4 hs4
            rw [seqQ_normal, WC_seq]
            refine WC_cut (fun env' σ' n' => n' = n4 ∧ σ' = σ2 ∧ env' 0 = .ref id 0 N 2 ∧ env' 1 = .int .i64 (a' : Int) ∧ env' 2 = .int .i64 (b' : Int) ∧ env' 3 = .int .i64 ((lim1 : Nat) : Int) ∧ env' 4 = .fn 24 [] ∧
              env' 10 = .bool wb ∧ env' 11 = .bool wp ∧ env' 12 = .int .i64 ((b' - a' : Nat) : Int) ∧ env' 13 = .int .i64 (p' : Int)) ?_ ?_
            · by_cases ha0 : 0 < a'
              · have ha0' : (0 : Int) < (a' : Int) := by omega
                have wa1 : IntKind.i64.wrap ((a' : Int) - 1) = ((a' - 1 : Nat) : Int) := by rw [wrap_i64] <;> omega
                have x1 := rw_at (d := e2) (i := a' - 1) (by omega)
                have x2 := rw_at (d := e2) (i := p') (by omega)
                have l1 : a' - 1 < N := by omega
                have l2 : p' < N := by omega
                by_cases hc : cmpH e2[a' - 1]! e2[p']! < 0
                · simp +contextual -implicitDefEqProofs (maxSteps := 2000000) only [↓wP, wQ, wQ1, wQ2, wQ3, wR, boxE, partsOf, ↓reduceIte, Nat.reduceEqDiff, Nat.reduceAdd, Nat.reduceSub, Nat.reduceLeDiff, Nat.reduceLT, Nat.reduceMul, reduceCtorEq, Int.reduceBNe, Int.reduceBEq, Int.reduceLT, Int.reduceLE, Int.reduceGT, h2, h3, h4, h5, h6, h7, h8, hlen, h13, ha0', wa1, h9, x1, x2, l1, l2, f24, hc]
                · have hah : ahead e2[a' - 1]! e2[p']! = false := by rw [← cmp_lt]; simpa using hc
                  simp +contextual -implicitDefEqProofs (maxSteps := 2000000) only [↓wP, wQ, wQ1, wQ2, wQ3, wR, boxE, partsOf, ↓reduceIte, Nat.reduceEqDiff, Nat.reduceAdd, Nat.reduceSub, Nat.reduceLeDiff, Nat.reduceLT, Nat.reduceMul, reduceCtorEq, Int.reduceBNe, Int.reduceBEq, Int.reduceLT, Int.reduceLE, Int.reduceGT, h2, h3, h4, h5, h6, h7, h8, hlen, h13, ha0', wa1, h9, x1, x2, l1, l2, f24, hc]
                  refine stepW_raw (by decide) (raw50N q7 a' b' p' id n4 σ2 hpa hpb q2 hn h9 fun σ5 hat => ?_)
                  obtain ⟨r1, r2, r3, r4, r5⟩ := round_eq (lt := ahead) swoA (partitionEqual_holds ahead) (d3 := e2) (d4 := (partitionEqual ahead e2 a' b' p').2) (mid := (partitionEqual ahead e2 a' b' p').1) (a := a') (b := b') (pivot := p') ha0 hpa hpb (by omega) q8 hah rfl
                  simp +contextual -implicitDefEqProofs (maxSteps := 2000000) only [↓wP, wQ, wQ1, wQ2, wQ3, wR, boxE, partsOf, ↓reduceIte, Nat.reduceEqDiff, Nat.reduceAdd, Nat.reduceSub, Nat.reduceLeDiff, Nat.reduceLT, Nat.reduceMul, reduceCtorEq, Int.reduceBNe, Int.reduceBEq, Int.reduceLT, Int.reduceLE, Int.reduceGT, h2, h3, h4, h5, h6, h7, h8, hlen, h13]
                  generalize (partitionEqual ahead e2 a' b' p').2 = e3 at *
                  generalize (partitionEqual ahead e2 a' b' p').1 = mid at *
                  have hfr : ∀ i, i ≠ id → i < n → σ5 i = σ i := fun i hi hin => by rw [hat.2 i hi, hf i hi hin]
                  refine ⟨((mid, b'), lim1), by dsimp only; omega, by omega, rfl, rfl, rfl, ⟨_, rfl⟩, ⟨_, rfl⟩, hfr, e3, ⟨r2, q2, by dsimp only; omega, by dsimp only; omega, by dsimp only; omega, by dsimp only; omega, by rw [r3, q7], r4, fun R hR hs => ?_⟩, hat.1⟩
                  obtain ⟨t1, t2⟩ := r5 R hR hs
                  exact q9 R t1 t2
              · have ha0' : ¬ (0 : Int) < (a' : Int) := by omega
                simp +contextual -implicitDefEqProofs (maxSteps := 2000000) only [↓wP, wQ, wQ1, wQ2, wQ3, wR, boxE, partsOf, ↓reduceIte, Nat.reduceEqDiff, Nat.reduceAdd, Nat.reduceSub, Nat.reduceLeDiff, Nat.reduceLT, Nat.reduceMul, reduceCtorEq, Int.reduceBNe, Int.reduceBEq, Int.reduceLT, Int.reduceLE, Int.reduceGT, h2, h3, h4, h5, h6, h7, h8, hlen, h13, ha0']
            · clear h2 h3 h4 h5 h6 h7 h8 hlen h13
              intro env σ3 n5 ⟨hn5, hs5, h2, h3, h4, h5, h6, h7, h8, hlen, h13⟩
              subst hn5 hs5
              simp +contextual -implicitDefEqProofs (maxSteps := 2000000) only [↓wP, wQ, wQ1, wQ2, wQ3, wR, boxE, partsOf, ↓reduceIte, Nat.reduceEqDiff, Nat.reduceAdd, Nat.reduceSub, Nat.reduceLeDiff, Nat.reduceLT, Nat.reduceMul, reduceCtorEq, Int.reduceBNe, Int.reduceBEq, Int.reduceLT, Int.reduceLE, Int.reduceGT, h2, h3, h4, h5, h6, h7, h8, hlen, h13]
              refine stepW_raw (by decide) (raw51N q7 a' b' p' id n5 σ3 hpa hpb q2 hn h9 fun σ5 hat => ?_)
              obtain ⟨r1, r2, r3, r4, r5, r6, r7⟩ := round_part (lt := ahead) swoA (partition_holds ahead) (d3 := e2) (d4 := (partition ahead e2 a' b' p').2.2) (mid := (partition ahead e2 a' b' p').1) (ap := (partition ahead e2 a' b' p').2.1) (a := a') (b := b') (pivot := p') hpa hpb (by omega) q8 rfl
              generalize (partition ahead e2 a' b' p').2.2 = e3 at *
              generalize (partition ahead e2 a' b' p').1 = mid at *
              generalize (partition ahead e2 a' b' p').2.1 = ap at *
              have hfr : ∀ i, i ≠ id → i < n → σ5 i = σ i := fun i hi hin => by rw [hat.2 i hi, hf i hi hin]
              have wma : IntKind.i64.wrap ((mid : Int) - (a' : Int)) = ((mid - a' : Nat) : Int) := by rw [wrap_i64] <;> omega
              have wbm : IntKind.i64.wrap ((b' : Int) - (mid : Int)) = ((b' - mid : Nat) : Int) := by rw [wrap_i64] <;> omega
              have wm1 : IntKind.i64.wrap ((mid : Int) + 1) = ((mid + 1 : Nat) : Int) := by rw [wrap_i64] <;> omega
              have q8' := bin_quo8 (b' - a') (by omega)
              have hsz : e3.size = N := by rw [r3, q7]
              by_cases hlr : mid - a' < b' - mid
              · have hlr' : ((mid - a' : Nat) : Int) < ((b' - mid : Nat) : Int) := by omega
                simp +contextual -implicitDefEqProofs (maxSteps := 2000000) only [↓wP, wQ, wQ1, wQ2, wQ3, wR, boxE, partsOf, ↓reduceIte, Nat.reduceEqDiff, Nat.reduceAdd, Nat.reduceSub, Nat.reduceLeDiff, Nat.reduceLT, Nat.reduceMul, reduceCtorEq, Int.reduceBNe, Int.reduceBEq, Int.reduceLT, Int.reduceLE, Int.reduceGT, h2, h3, h4, h5, h6, h7, h8, hlen, h13, wma, wbm, wm1, q8', hlr']
                refine stepW_raw (by decide) (ih e3 a' mid lim1 id n5 N σ5 (by omega) r1 (by omega) (by omega) (by omega) hn (by omega) (by omega) hsz hat.1 r4 fun σ6 d6 n6 k1 k2 k3 k4 k5 => ?_)
                obtain ⟨t1, t2⟩ := r6 d6 k4 k5
                simp +contextual -implicitDefEqProofs (maxSteps := 2000000) only [↓wP, wQ, wQ1, wQ2, wQ3, wR, boxE, partsOf, ↓reduceIte, Nat.reduceEqDiff, Nat.reduceAdd, Nat.reduceSub, Nat.reduceLeDiff, Nat.reduceLT, Nat.reduceMul, reduceCtorEq, Int.reduceBNe, Int.reduceBEq, Int.reduceLT, Int.reduceLE, Int.reduceGT, h2, h3, h4, h5, h6, h7, h8, hlen, h13, wm1]
                have hfr2 : ∀ i, i ≠ id → i < n → σ6 i = σ i := fun i hi hin => by rw [k3 i hi (by omega), hfr i hi hin]
                refine ⟨((mid + 1, b'), lim1), by dsimp only; omega, by omega, rfl, rfl, rfl, ⟨_, rfl⟩, ⟨_, rfl⟩, hfr2, d6, ⟨by dsimp only; omega, q2, by dsimp only; omega, by dsimp only; omega, by dsimp only; omega, by dsimp only; omega, by rw [k4.1, hsz], t1, fun R hR hs => ?_⟩, k2⟩
                obtain ⟨u1, u2⟩ := t2 R hR hs
                exact q9 R u1 u2
              · have hlr' : ¬ ((mid - a' : Nat) : Int) < ((b' - mid : Nat) : Int) := by omega
                simp +contextual -implicitDefEqProofs (maxSteps := 2000000) only [↓wP, wQ, wQ1, wQ2, wQ3, wR, boxE, partsOf, ↓reduceIte, Nat.reduceEqDiff, Nat.reduceAdd, Nat.reduceSub, Nat.reduceLeDiff, Nat.reduceLT, Nat.reduceMul, reduceCtorEq, Int.reduceBNe, Int.reduceBEq, Int.reduceLT, Int.reduceLE, Int.reduceGT, h2, h3, h4, h5, h6, h7, h8, hlen, h13, wma, wbm, wm1, q8', hlr']
                refine stepW_raw (by decide) (ih e3 (mid + 1) b' lim1 id n5 N σ5 (by omega) (by omega) (by omega) (by omega) q2 hn (by omega) (by omega) hsz hat.1 r5 fun σ6 d6 n6 k1 k2 k3 k4 k5 => ?_)
                obtain ⟨t1, t2⟩ := r7 d6 k4 k5
                simp +contextual -implicitDefEqProofs (maxSteps := 2000000) only [↓wP, wQ, wQ1, wQ2, wQ3, wR, boxE, partsOf, ↓reduceIte, Nat.reduceEqDiff, Nat.reduceAdd, Nat.reduceSub, Nat.reduceLeDiff, Nat.reduceLT, Nat.reduceMul, reduceCtorEq, Int.reduceBNe, Int.reduceBEq, Int.reduceLT, Int.reduceLE, Int.reduceGT, h2, h3, h4, h5, h6, h7, h8, hlen, h13]
                have hfr2 : ∀ i, i ≠ id → i < n → σ6 i = σ i := fun i hi hin => by rw [k3 i hi (by omega), hfr i hi hin]
                refine ⟨((a', mid), lim1), by dsimp only; omega, by omega, rfl, rfl, rfl, ⟨_, rfl⟩, ⟨_, rfl⟩, hfr2, d6, ⟨by dsimp only; omega, by dsimp only; omega, by dsimp only; omega, by dsimp only; omega, by dsimp only; omega, by dsimp only; omega, by rw [k4.1, hsz], t1, fun R hR hs => ?_⟩, k2⟩
                obtain ⟨u1, u2⟩ := t2 R hR hs
                exact q9 R u1 u2
  · simp +contextual -implicitDefEqProofs (maxSteps := 2000000) only [↓wP, wQ, wQ1, wQ2, wQ3, wR, boxE, partsOf, ↓reduceIte, Nat.reduceEqDiff, Nat.reduceAdd, Nat.reduceSub, Nat.reduceLeDiff, Nat.reduceLT, Nat.reduceMul, reduceCtorEq, Int.reduceBNe, Int.reduceBEq, Int.reduceLT, Int.reduceLE, Int.reduceGT]
    exact ⟨⟨true, rfl⟩, ⟨true, rfl⟩, fun _ _ _ => trivial, d, ⟨hab, hb, by omega, h50, h12, hlim, hN, hB, fun R hR hs => ⟨hR, hs⟩⟩, hσ⟩

theorem raw86 : ∀ L : Nat, Sorts L
  | 0 => fun _ _ _ _ _ _ _ _ h => absurd h (by omega)
  | L + 1 => raw86_step L (raw86 L)

def chk87 (m : Nat) : Bool := match exJob T 60 (.pure 87 [.int .u64 (m : Int)]) with
  | some (.val (.int .i64 M)) => decide (0 ≤ M ∧ (m : Int) ≤ 12 + M ∧ M < 1000)
  | _ => false
theorem all87 : (List.range 18).all chk87 = true := by decide +kernel
theorem r87 (m : Nat) (h : m < 18) : ∃ M : Nat, m ≤ 12 + M ∧ M < 1000 ∧ res T 87 [.int .u64 (m : Int)] = some (.int .i64 (M : Int)) := by
  have h := List.all_eq_true.1 all87 m (List.mem_range.2 h)
  unfold chk87 at h
  split at h
  · rename_i M hM
    simp only [decide_eq_true_eq] at h
    refine ⟨M.toNat, by omega, by omega, ?_⟩
    rw [show ((M.toNat : Nat) : Int) = M by omega]
    exact run_res (exJob_sound 60 _ _ hM)
  · cases h

/-- A row of at most seventeen is sorted where it stands. -/
theorem raw70 (d : Array Hit) (id n : Nat) (σ : Sto) (hd : d.size < 18) (hid : id < n) (hσ : σ id = some (.row 2 (rw' d))) {Q : V → Sto → Nat → Prop}
    (hQ : ∀ σ' d' n', n ≤ n' → σ' id = some (.row 2 (rw' d')) → (∀ i, i ≠ id → i < n → σ' i = σ i) → PermIn 0 d.size d d' → SortedIn ahead 0 d.size d' → Q .undef σ' n') :
    run T (.raw 70 [.ref id 0 d.size 2, .fn 24 []] σ n 0) (memQ Q) := by
  refine run_rawE (fn := g70) rfl rfl ?_
  simp only [g70, b70]
  obtain ⟨M, h1, h2, h3⟩ := r87 d.size hd
  have f87 := callE_tr (fs := true) (by decide) h3 (by simp [Tr]) rfl
  have wu : IntKind.u64.wrap ((d.size : Nat) : Int) = ((d.size : Nat) : Int) := by rw [wrap_u64] <;> omega
  simp +contextual -implicitDefEqProofs (maxSteps := 2000000) only [↓wP, wQ, wQ1, wQ2, wQ3, wR, boxE, partsOf, ↓reduceIte, Nat.reduceEqDiff, Nat.reduceAdd, Nat.reduceSub, Nat.reduceLeDiff, Nat.reduceLT, Nat.reduceMul, reduceCtorEq, Int.reduceBNe, Int.reduceBEq, Int.reduceLT, Int.reduceLE, Int.reduceGT, wu, f87]
  refine stepW_raw (by decide) (raw86 (d.size + 1) d 0 d.size M id n d.size σ (by omega) (by omega) (by omega) (by omega) (by omega) (by omega) h2 hid rfl hσ (.inl rfl) fun σ' d' n' k1 k2 k3 k4 k5 => ?_)
  simp +contextual -implicitDefEqProofs (maxSteps := 2000000) only [↓wP, wQ, wQ1, wQ2, wQ3, wR, boxE, partsOf, ↓reduceIte, Nat.reduceEqDiff, Nat.reduceAdd, Nat.reduceSub, Nat.reduceLeDiff, Nat.reduceLT, Nat.reduceMul, reduceCtorEq, Int.reduceBNe, Int.reduceBEq, Int.reduceLT, Int.reduceLE, Int.reduceGT]
  exact hQ σ' d' n' k1 k2 k3 k4 k5

end Go.Q.S11
end

section
/- A heap of hits. -/
set_option linter.unusedSimpArgs false
set_option linter.unusedVariables false
namespace Go.Q.S11
open Go.Q Go.Sort

theorem At.trans {σ σ1 σ2 : Sto} {id : Nat} {d1 d2 : Array Hit} (h : At σ1 σ id d1) (h' : At σ2 σ1 id d2) : At σ2 σ id d2 := ⟨h'.1, fun i hi => (h'.2 i hi).trans (h.2 i hi)⟩

theorem raw133 (d : Array Hit) (i j id n len : Nat) (σ : Sto) (hi : i < len) (hj : j < len) (hl : len ≤ d.size) (hσ : σ id = some (.row 2 (rw' d))) {Q : V → Sto → Nat → Prop}
    (hQ : ∀ σ', At σ' σ id (swp d i j) → Q .undef σ' n) : run T (.raw 133 [.ref id 0 len 2, .int .i64 (i : Int), .int .i64 (j : Int)] σ n 0) (memQ Q) := by
  refine run_rawE (fn := g133) rfl rfl ?_
  simp only [g133, b133]
  have x1 := rw_at (d := d) (i := i) (by omega)
  have x2 := rw_at (d := d) (i := j) (by omega)
  obtain ⟨u, v, x3⟩ := rw_set_at (d := d) (i := i) (j := j) (x := d[j]!) (by omega)
  have hat := (At.refl hσ).swp i j
  simp +contextual -implicitDefEqProofs (maxSteps := 2000000) only [↓wP, wQ, wQ1, wQ2, wQ3, wR, boxE, partsOf, ↓reduceIte, Nat.reduceEqDiff, Nat.reduceAdd, Nat.reduceSub, Nat.reduceLeDiff, Nat.reduceLT, Nat.reduceMul, reduceCtorEq, Int.reduceBNe, Int.reduceBEq, Int.reduceLT, Int.reduceLE, Int.reduceGT, x1, x2, x3, hi, hj, hσ]
  exact hQ _ hat

theorem frz_pre {d : Array Hit} {len id : Nat} {σ : Sto} (hl : len ≤ d.size) (h : σ id = some (.row 2 (rw' d))) (k : Nat) : frz σ (k + 3) (.ref id 0 len 2) = some (.sl 2 ((rw' d).take len)) := by
  have e : elems σ 2 (.ref id 0 len 2) = some ((rw' d).take len) := by
    simp only [elems, h, List.drop_zero]
    rw [if_pos ⟨trivial, trivial, by rw [rw_len]; omega⟩]
  have hm : ((rw' d).take len).mapM (elemM (frz σ (k + 2))) = some ((rw' d).take len) := by
    refine mapM_id fun c hc => ?_
    have := List.mem_of_mem_take hc
    unfold rw' at this
    obtain ⟨y, -, rfl⟩ := List.mem_map.1 this
    rfl
  show (elems σ 2 (.ref id 0 len 2)).bind _ = _
  rw [e, Option.bind_some, hm]
  rfl

theorem r130 (L : List V) (i j : Nat) (a b : Hit) (ha : L[i]? = some (.agg [.int .u64 a.id, .int .u64 a.d])) (hb : L[j]? = some (.agg [.int .u64 b.id, .int .u64 b.d])) :
    res T 130 [.box [.sl 2 L], .int .i64 (i : Int), .int .i64 (j : Int)] = some (.bool (ahead b a)) := by
  refine run_res (run_pure (fn := g130) rfl rfl (by decide) ?_)
  simp only [g130, b130]
  simp +contextual -implicitDefEqProofs (maxSteps := 2000000) only [↓wP, wQ, wQ1, wQ2, wQ3, wR, boxE, partsOf, ↓reduceIte, Nat.reduceEqDiff, Nat.reduceAdd, Nat.reduceSub, Nat.reduceLeDiff, Nat.reduceLT, Nat.reduceMul, reduceCtorEq, Int.reduceBNe, Int.reduceBEq, Int.reduceLT, Int.reduceLE, Int.reduceGT, ha, hb, f24]
  rw [← cmp_gt]

theorem f130 {d : Array Hit} {len id wid : Nat} {σ : Sto} (i j : Nat) (hl : len ≤ d.size) (hi : i < len) (hj : j < len) (hw : σ wid = some (.row 1 [.agg [.ref id 0 len 2]])) (h : σ id = some (.row 2 (rw' d))) (fs : Bool) (n lk : Nat) :
    callE T fs 130 [.ptr wid 1 0 0, .int .i64 (i : Int), .int .i64 (j : Int)] σ n lk = some (.bool (ahead d[j]! d[i]!), σ, n) := by
  rw [callE_eq (by decide)]
  have hp : frz σ 12 (.ptr wid 1 0 0) = some (.box [.sl 2 ((rw' d).take len)]) := by
    show (rowAt σ wid 1 0).bind _ = _
    simp only [rowAt, hw, if_true, List.getElem?_cons_zero, Option.bind_some, V.cells, List.drop_zero, List.mapM_cons, List.mapM_nil, frz_pre hl h 8]
    rfl
  have e : [V.ptr wid 1 0 0, .int .i64 (i : Int), .int .i64 (j : Int)].mapM (frz σ 12) = some [.box [.sl 2 ((rw' d).take len)], .int .i64 (i : Int), .int .i64 (j : Int)] := by
    simp only [List.mapM_cons, List.mapM_nil, hp, frz_int]
    rfl
  have x1 : ((rw' d).take len)[i]? = some (.agg [.int .u64 (d[i]!).id, .int .u64 (d[i]!).d]) := by rw [List.getElem?_take_of_lt hi, rw_at (by omega)]
  have x2 : ((rw' d).take len)[j]? = some (.agg [.int .u64 (d[j]!).id, .int .u64 (d[j]!).d]) := by rw [List.getElem?_take_of_lt hj, rw_at (by omega)]
  rw [e, callR_some, r130 _ i j d[i]! d[j]! x1 x2, retE_some, backE_flat rfl]
  rfl

theorem r65 (o : Option (List V)) : res T 65 [slV 2 _root_.id o] = some (.int .i64 ((lst o).length : Int)) := by
  refine run_res (run_pure (fn := g65) rfl rfl (by decide) ?_)
  simp only [g65, b65]
  simp +contextual -implicitDefEqProofs (maxSteps := 2000000) only [↓wP, wQ, wQ1, wQ2, wQ3, wR, boxE, partsOf, ↓reduceIte, Nat.reduceEqDiff, Nat.reduceAdd, Nat.reduceSub, Nat.reduceLeDiff, Nat.reduceLT, Nat.reduceMul, reduceCtorEq, Int.reduceBNe, Int.reduceBEq, Int.reduceLT, Int.reduceLE, Int.reduceGT]

theorem f32r {d : Array Hit} {len id : Nat} {σ : Sto} (hl : len ≤ d.size) (h : σ id = some (.row 2 (rw' d))) (fs : Bool) (n lk : Nat) :
    callE T fs 65 [.ref id 0 len 2] σ n lk = some (.int .i64 (len : Int), σ, n) := by
  rw [callE_eq (by decide)]
  have e : [V.ref id 0 len 2].mapM (frz σ 12) = some [slV 2 _root_.id (some ((rw' d).take len))] := by
    simp only [List.mapM_cons, List.mapM_nil, frz_pre hl h 9, slV, List.map_id]
    rfl
  rw [e, callR_some, r65, retE_some, backE_flat rfl]
  simp only [lst_some, List.length_take, rw_len]
  rw [Nat.min_eq_left hl]
  rfl
theorem f65n (σ : Sto) (fs : Bool) (n lk : Nat) : callE T fs 65 [.nilS] σ n lk = some (.int .i64 0, σ, n) := by
  have := callE_tr (T := T) (f := 65) (args := [.nilS]) (by decide) (r65 none) rfl rfl fs σ n lk
  exact this

theorem bin_quo2 (m : Nat) (h : m < 9223372036854775808) : binV .quo (.int .i64 (m : Int)) (.int .i64 2) = some (.int .i64 ((m / 2 : Nat) : Int)) := by
  rw [bin_quo .i64 (m : Int) 2 (by decide)]
  have e : (m : Int).tdiv 2 = ((m / 2 : Nat) : Int) := rfl
  rw [e, wrap_nat (by omega)]
theorem bin_quo2n : binV .quo (.int .i64 (-1)) (.int .i64 2) = some (.int .i64 0) := by
  rw [bin_quo .i64 (-1) 2 (by decide)]
  rfl

/-- One goes up. -/
theorem raw84 (d : Array Hit) (j wid id len n : Nat) (σ : Sto) (hj : j < len) (hl : len ≤ d.size) (hd : d.size < 1000000) (hw : σ wid = some (.row 1 [.agg [.ref id 0 len 2]])) (hσ : σ id = some (.row 2 (rw' d))) (hne : wid ≠ id)
    (hup : HpUp len j d) {Q : V → Sto → Nat → Prop} (hQ : ∀ σ' d', At σ' σ id d' → PermIn 0 len d d' → Hp len d' → Q .undef σ' n) :
    run T (.raw 84 [.iface 104 (.ptr wid 1 0 0), .int .i64 (j : Int)] σ n 0) (memQ Q) := by
  refine run_rawE (fn := g84) rfl rfl ?_
  simp only [g84, b84]
  simp +contextual -implicitDefEqProofs (maxSteps := 2000000) only [↓wP, wQ, wQ1, wQ2, wQ3, wR, boxE, partsOf, ↓reduceIte, Nat.reduceEqDiff, Nat.reduceAdd, Nat.reduceSub, Nat.reduceLeDiff, Nat.reduceLT, Nat.reduceMul, reduceCtorEq, Int.reduceBNe, Int.reduceBEq, Int.reduceLT, Int.reduceLE, Int.reduceGT]
  refine WC_loopI 0 (fun (s : Nat × Array Hit) env σ' n' => n' = n ∧ env 0 = .iface 104 (.ptr wid 1 0 0) ∧ env 1 = .int .i64 (s.1 : Int) ∧ s.1 < len ∧ s.2.size = d.size ∧ At σ' σ id s.2 ∧ PermIn 0 len d s.2 ∧ HpUp len s.1 s.2) (fun s => s.1) ?_ (j, d) _ _ _ ?_
  · intro ⟨j', e⟩ env σ1 n1 ⟨h1, h2, h3, h4, h5, h6, h7, h8⟩
    subst h1
    dsimp only at h3 h4 h5 h6 h7 h8
    have hw1 : σ1 wid = some (.row 1 [.agg [.ref id 0 len 2]]) := by rw [h6.2 wid hne, hw]
    by_cases h0 : j' = 0
    · subst h0
      have w0 : IntKind.i64.wrap (((0 : Nat) : Int) - 1) = -1 := by decide
      have w0' : IntKind.i64.wrap ((0 : Int) - 1) = -1 := by decide
      simp only [Int.natCast_zero] at h3
      simp +contextual -implicitDefEqProofs (maxSteps := 2000000) only [↓wP, wQ, wQ1, wQ2, wQ3, wR, boxE, partsOf, ↓reduceIte, Nat.reduceEqDiff, Nat.reduceAdd, Nat.reduceSub, Nat.reduceLeDiff, Nat.reduceLT, Nat.reduceMul, reduceCtorEq, Int.reduceBNe, Int.reduceBEq, Int.reduceLT, Int.reduceLE, Int.reduceGT, h2, h3, w0, w0', bin_quo2n]
      exact hQ _ e h6 h7 (h8.stop (.inl rfl))
    · have w1 : IntKind.i64.wrap ((j' : Int) - 1) = ((j' - 1 : Nat) : Int) := by rw [wrap_i64] <;> omega
      have q2 := bin_quo2 (j' - 1) (by omega)
      have hne' : ((((j' - 1) / 2 : Nat) : Int) == (j' : Int)) = false := by simp; omega
      have c76 := fun fs n lk => f130 (d := e) (len := len) (σ := σ1) j' ((j' - 1) / 2) (by omega) h4 (by omega) hw1 h6.1 fs n lk
      cases hc : ahead e[(j' - 1) / 2]! e[j']!
      · rw [hc] at c76
        simp +contextual -implicitDefEqProofs (maxSteps := 2000000) only [↓wP, wQ, wQ1, wQ2, wQ3, wR, boxE, partsOf, ↓reduceIte, Nat.reduceEqDiff, Nat.reduceAdd, Nat.reduceSub, Nat.reduceLeDiff, Nat.reduceLT, Nat.reduceMul, reduceCtorEq, Int.reduceBNe, Int.reduceBEq, Int.reduceLT, Int.reduceLE, Int.reduceGT, h2, h3, w1, q2, hne', c76]
        exact hQ _ e h6 h7 (h8.stop (.inr hc))
      · rw [hc] at c76
        simp +contextual -implicitDefEqProofs (maxSteps := 2000000) only [↓wP, wQ, wQ1, wQ2, wQ3, wR, boxE, partsOf, ↓reduceIte, Nat.reduceEqDiff, Nat.reduceAdd, Nat.reduceSub, Nat.reduceLeDiff, Nat.reduceLT, Nat.reduceMul, reduceCtorEq, Int.reduceBNe, Int.reduceBEq, Int.reduceLT, Int.reduceLE, Int.reduceGT, h2, h3, w1, q2, hne', c76, hw1]
        refine stepW_raw (by decide) (raw133 e _ _ id n1 len σ1 (by omega) h4 (by omega) h6.1 fun σ2 hat => ?_)
        simp +contextual -implicitDefEqProofs (maxSteps := 2000000) only [↓wP, wQ, wQ1, wQ2, wQ3, wR, boxE, partsOf, ↓reduceIte, Nat.reduceEqDiff, Nat.reduceAdd, Nat.reduceSub, Nat.reduceLeDiff, Nat.reduceLT, Nat.reduceMul, reduceCtorEq, Int.reduceBNe, Int.reduceBEq, Int.reduceLT, Int.reduceLE, Int.reduceGT, h2, h3]
        exact ⟨((j' - 1) / 2, swp e ((j' - 1) / 2) j'), by dsimp only; omega, rfl, by dsimp only; omega, by rw [swp_size, h5], h6.trans hat,
          permIn_trans _ _ _ _ _ h7 (swp_permIn e 0 len _ _ (by omega) (by omega) (by omega) h4 (by omega)), h8.step (by omega) h4 (by omega) hc⟩
  · simp +contextual -implicitDefEqProofs (maxSteps := 2000000) only [↓wP, wQ, wQ1, wQ2, wQ3, wR, boxE, partsOf, ↓reduceIte, Nat.reduceEqDiff, Nat.reduceAdd, Nat.reduceSub, Nat.reduceLeDiff, Nat.reduceLT, Nat.reduceMul, reduceCtorEq, Int.reduceBNe, Int.reduceBEq, Int.reduceLT, Int.reduceLE, Int.reduceGT]
    exact ⟨hj, At.refl hσ, permIn_refl _ _ _, hup⟩

/-- One goes down. -/
theorem raw85 (d : Array Hit) (m wid id len n : Nat) (σ : Sto) (hm : m ≤ len) (hl : len ≤ d.size) (hd : d.size < 1000000) (hw : σ wid = some (.row 1 [.agg [.ref id 0 len 2]])) (hσ : σ id = some (.row 2 (rw' d))) (hne : wid ≠ id)
    (hdn : HpDn m 0 d) {Q : V → Sto → Nat → Prop} (hQ : ∀ r σ' d', At σ' σ id d' → PermIn 0 m d d' → Hp m d' → Q (.bool r) σ' n) :
    run T (.raw 85 [.iface 104 (.ptr wid 1 0 0), .int .i64 0, .int .i64 (m : Int)] σ n 0) (memQ Q) := by
  refine run_rawE (fn := g85) rfl rfl ?_
  simp only [g85, b85]
  simp +contextual -implicitDefEqProofs (maxSteps := 2000000) only [↓wP, wQ, wQ1, wQ2, wQ3, wR, boxE, partsOf, ↓reduceIte, Nat.reduceEqDiff, Nat.reduceAdd, Nat.reduceSub, Nat.reduceLeDiff, Nat.reduceLT, Nat.reduceMul, reduceCtorEq, Int.reduceBNe, Int.reduceBEq, Int.reduceLT, Int.reduceLE, Int.reduceGT]
  refine WC_loopI 0 (fun (s : Nat × Array Hit) env σ' n' => n' = n ∧ env 0 = .iface 104 (.ptr wid 1 0 0) ∧ env 1 = .int .i64 0 ∧ env 2 = .int .i64 (m : Int) ∧ env 7 = .int .i64 (s.1 : Int) ∧ (s.1 < m ∨ s.1 = 0) ∧ s.2.size = d.size ∧ At σ' σ id s.2 ∧ PermIn 0 m d s.2 ∧ HpDn m s.1 s.2) (fun s => m - s.1) ?_ (0, d) _ _ _ ?_
  · intro ⟨i, e⟩ env σ1 n1 ⟨h1, h2, h3, h4, h5, h6, h7, h8, h9, h10⟩
    subst h1
    dsimp only at h5 h6 h7 h8 h9 h10
    have hw1 : σ1 wid = some (.row 1 [.agg [.ref id 0 len 2]]) := by rw [h8.2 wid hne, hw]
    have w1 : IntKind.i64.wrap (2 * (i : Int)) = ((2 * i : Nat) : Int) := by rw [wrap_i64] <;> omega
    have w2 : IntKind.i64.wrap (((2 * i : Nat) : Int) + 1) = ((2 * i + 1 : Nat) : Int) := by rw [wrap_i64] <;> omega
    by_cases hge : m ≤ 2 * i + 1
    · have hge' : (m : Int) ≤ ((2 * i + 1 : Nat) : Int) := by omega
      simp +contextual -implicitDefEqProofs (maxSteps := 2000000) only [↓wP, wQ, wQ1, wQ2, wQ3, wR, boxE, partsOf, ↓reduceIte, Nat.reduceEqDiff, Nat.reduceAdd, Nat.reduceSub, Nat.reduceLeDiff, Nat.reduceLT, Nat.reduceMul, reduceCtorEq, Int.reduceBNe, Int.reduceBEq, Int.reduceLT, Int.reduceLE, Int.reduceGT, h2, h3, h4, h5, w1, w2, hge']
      exact hQ _ _ e h8 h9 (h10.stop fun c h0 hc hp => by omega)
    · have hge' : ¬ (m : Int) ≤ ((2 * i + 1 : Nat) : Int) := by omega
      have hn0 : ¬ ((2 * i + 1 : Nat) : Int) < 0 := by omega
      have w3 : IntKind.i64.wrap (((2 * i + 1 : Nat) : Int) + 1) = ((2 * i + 2 : Nat) : Int) := by rw [wrap_i64] <;> omega
      by_cases h2m : 2 * i + 2 < m
      · have h2m' : ((2 * i + 2 : Nat) : Int) < (m : Int) := by omega
        have c76 := fun fs n lk => f130 (d := e) (len := len) (σ := σ1) (2 * i + 2) (2 * i + 1) (by omega) (by omega) (by omega) hw1 h8.1 fs n lk
        cases hc : ahead e[2 * i + 1]! e[2 * i + 2]!
        · rw [hc] at c76
          have hbest : ∀ c, 0 < c → c < m → (c - 1) / 2 = i → ahead e[2 * i + 1]! e[c]! = false := by
            intro c h0 hcm hp
            have : c = 2 * i + 1 ∨ c = 2 * i + 2 := by omega
            rcases this with rfl | rfl
            · exact swoA.irrefl _
            · exact hc
          have c76b := fun fs n lk => f130 (d := e) (len := len) (σ := σ1) (2 * i + 1) i (by omega) (by omega) (by omega) hw1 h8.1 fs n lk
          cases hcb : ahead e[i]! e[2 * i + 1]!
          · rw [hcb] at c76b
            simp +contextual -implicitDefEqProofs (maxSteps := 2000000) only [↓wP, wQ, wQ1, wQ2, wQ3, wR, boxE, partsOf, ↓reduceIte, Nat.reduceEqDiff, Nat.reduceAdd, Nat.reduceSub, Nat.reduceLeDiff, Nat.reduceLT, Nat.reduceMul, reduceCtorEq, Int.reduceBNe, Int.reduceBEq, Int.reduceLT, Int.reduceLE, Int.reduceGT, h2, h3, h4, h5, w1, w2, w3, hge', hn0, h2m', c76, c76b]
            refine hQ _ _ e h8 h9 (h10.stop fun c h0 hcm hp => ?_)
            exact swoA.ntrans _ _ _ hcb (hbest c h0 hcm hp)
          · rw [hcb] at c76b
            simp +contextual -implicitDefEqProofs (maxSteps := 2000000) only [↓wP, wQ, wQ1, wQ2, wQ3, wR, boxE, partsOf, ↓reduceIte, Nat.reduceEqDiff, Nat.reduceAdd, Nat.reduceSub, Nat.reduceLeDiff, Nat.reduceLT, Nat.reduceMul, reduceCtorEq, Int.reduceBNe, Int.reduceBEq, Int.reduceLT, Int.reduceLE, Int.reduceGT, h2, h3, h4, h5, w1, w2, w3, hge', hn0, h2m', c76, c76b, hw1]
            refine stepW_raw (by decide) (raw133 e _ _ id n1 len σ1 (by omega) (by omega) (by omega) h8.1 fun σ3 hat => ?_)
            simp +contextual -implicitDefEqProofs (maxSteps := 2000000) only [↓wP, wQ, wQ1, wQ2, wQ3, wR, boxE, partsOf, ↓reduceIte, Nat.reduceEqDiff, Nat.reduceAdd, Nat.reduceSub, Nat.reduceLeDiff, Nat.reduceLT, Nat.reduceMul, reduceCtorEq, Int.reduceBNe, Int.reduceBEq, Int.reduceLT, Int.reduceLE, Int.reduceGT, h2, h3, h4, h5]
            exact ⟨(2 * i + 1, swp e i (2 * i + 1)), by dsimp only; omega, rfl, by dsimp only; omega, by rw [swp_size, h7], h8.trans hat,
              permIn_trans _ _ _ _ _ h9 (swp_permIn e 0 m _ _ (by omega) (by omega) (by omega) (by omega) (by omega)), h10.step (by omega) (by omega) (by omega) (by omega) hcb hbest⟩
        · rw [hc] at c76
          have hbest : ∀ c, 0 < c → c < m → (c - 1) / 2 = i → ahead e[2 * i + 2]! e[c]! = false := by
            intro c h0 hcm hp
            have : c = 2 * i + 1 ∨ c = 2 * i + 2 := by omega
            rcases this with rfl | rfl
            · exact swoA.asymm hc
            · exact swoA.irrefl _
          have c76b := fun fs n lk => f130 (d := e) (len := len) (σ := σ1) (2 * i + 2) i (by omega) (by omega) (by omega) hw1 h8.1 fs n lk
          cases hcb : ahead e[i]! e[2 * i + 2]!
          · rw [hcb] at c76b
            simp +contextual -implicitDefEqProofs (maxSteps := 2000000) only [↓wP, wQ, wQ1, wQ2, wQ3, wR, boxE, partsOf, ↓reduceIte, Nat.reduceEqDiff, Nat.reduceAdd, Nat.reduceSub, Nat.reduceLeDiff, Nat.reduceLT, Nat.reduceMul, reduceCtorEq, Int.reduceBNe, Int.reduceBEq, Int.reduceLT, Int.reduceLE, Int.reduceGT, h2, h3, h4, h5, w1, w2, w3, hge', hn0, h2m', c76, c76b]
            refine hQ _ _ e h8 h9 (h10.stop fun c h0 hcm hp => ?_)
            exact swoA.ntrans _ _ _ hcb (hbest c h0 hcm hp)
          · rw [hcb] at c76b
            simp +contextual -implicitDefEqProofs (maxSteps := 2000000) only [↓wP, wQ, wQ1, wQ2, wQ3, wR, boxE, partsOf, ↓reduceIte, Nat.reduceEqDiff, Nat.reduceAdd, Nat.reduceSub, Nat.reduceLeDiff, Nat.reduceLT, Nat.reduceMul, reduceCtorEq, Int.reduceBNe, Int.reduceBEq, Int.reduceLT, Int.reduceLE, Int.reduceGT, h2, h3, h4, h5, w1, w2, w3, hge', hn0, h2m', c76, c76b, hw1]
            refine stepW_raw (by decide) (raw133 e _ _ id n1 len σ1 (by omega) (by omega) (by omega) h8.1 fun σ3 hat => ?_)
            simp +contextual -implicitDefEqProofs (maxSteps := 2000000) only [↓wP, wQ, wQ1, wQ2, wQ3, wR, boxE, partsOf, ↓reduceIte, Nat.reduceEqDiff, Nat.reduceAdd, Nat.reduceSub, Nat.reduceLeDiff, Nat.reduceLT, Nat.reduceMul, reduceCtorEq, Int.reduceBNe, Int.reduceBEq, Int.reduceLT, Int.reduceLE, Int.reduceGT, h2, h3, h4, h5]
            exact ⟨(2 * i + 2, swp e i (2 * i + 2)), by dsimp only; omega, rfl, by dsimp only; omega, by rw [swp_size, h7], h8.trans hat,
              permIn_trans _ _ _ _ _ h9 (swp_permIn e 0 m _ _ (by omega) (by omega) (by omega) (by omega) (by omega)), h10.step (by omega) (by omega) (by omega) (by omega) hcb hbest⟩
      · have h2m' : ¬ ((2 * i + 2 : Nat) : Int) < (m : Int) := by omega
        have hbest : ∀ c, 0 < c → c < m → (c - 1) / 2 = i → ahead e[2 * i + 1]! e[c]! = false := by
          intro c h0 hcm hp
          have : c = 2 * i + 1 := by omega
          subst this
          exact swoA.irrefl _
        have c76b := fun fs n lk => f130 (d := e) (len := len) (σ := σ1) (2 * i + 1) i (by omega) (by omega) (by omega) hw1 h8.1 fs n lk
        cases hcb : ahead e[i]! e[2 * i + 1]!
        · rw [hcb] at c76b
          simp +contextual -implicitDefEqProofs (maxSteps := 2000000) only [↓wP, wQ, wQ1, wQ2, wQ3, wR, boxE, partsOf, ↓reduceIte, Nat.reduceEqDiff, Nat.reduceAdd, Nat.reduceSub, Nat.reduceLeDiff, Nat.reduceLT, Nat.reduceMul, reduceCtorEq, Int.reduceBNe, Int.reduceBEq, Int.reduceLT, Int.reduceLE, Int.reduceGT, h2, h3, h4, h5, w1, w2, w3, hge', hn0, h2m', c76b]
          refine hQ _ _ e h8 h9 (h10.stop fun c h0 hcm hp => ?_)
          exact swoA.ntrans _ _ _ hcb (hbest c h0 hcm hp)
        · rw [hcb] at c76b
          simp +contextual -implicitDefEqProofs (maxSteps := 2000000) only [↓wP, wQ, wQ1, wQ2, wQ3, wR, boxE, partsOf, ↓reduceIte, Nat.reduceEqDiff, Nat.reduceAdd, Nat.reduceSub, Nat.reduceLeDiff, Nat.reduceLT, Nat.reduceMul, reduceCtorEq, Int.reduceBNe, Int.reduceBEq, Int.reduceLT, Int.reduceLE, Int.reduceGT, h2, h3, h4, h5, w1, w2, w3, hge', hn0, h2m', c76b, hw1]
          refine stepW_raw (by decide) (raw133 e _ _ id n1 len σ1 (by omega) (by omega) (by omega) h8.1 fun σ3 hat => ?_)
          simp +contextual -implicitDefEqProofs (maxSteps := 2000000) only [↓wP, wQ, wQ1, wQ2, wQ3, wR, boxE, partsOf, ↓reduceIte, Nat.reduceEqDiff, Nat.reduceAdd, Nat.reduceSub, Nat.reduceLeDiff, Nat.reduceLT, Nat.reduceMul, reduceCtorEq, Int.reduceBNe, Int.reduceBEq, Int.reduceLT, Int.reduceLE, Int.reduceGT, h2, h3, h4, h5]
          exact ⟨(2 * i + 1, swp e i (2 * i + 1)), by dsimp only; omega, rfl, by dsimp only; omega, by rw [swp_size, h7], h8.trans hat,
            permIn_trans _ _ _ _ _ h9 (swp_permIn e 0 m _ _ (by omega) (by omega) (by omega) (by omega) (by omega)), h10.step (by omega) (by omega) (by omega) (by omega) hcb hbest⟩
  · simp +contextual -implicitDefEqProofs (maxSteps := 2000000) only [↓wP, wQ, wQ1, wQ2, wQ3, wR, boxE, partsOf, ↓reduceIte, Nat.reduceEqDiff, Nat.reduceAdd, Nat.reduceSub, Nat.reduceLeDiff, Nat.reduceLT, Nat.reduceMul, reduceCtorEq, Int.reduceBNe, Int.reduceBEq, Int.reduceLT, Int.reduceLE, Int.reduceGT]
    exact ⟨rfl, .inr trivial, At.refl hσ, permIn_refl _ _ _, hdn⟩
end Go.Q.S11
end
