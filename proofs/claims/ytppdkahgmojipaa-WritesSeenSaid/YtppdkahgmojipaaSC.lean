/- WritesSeen, the law. -/
import Derived.Test.YtppdkahgmojipaaSB
import Derived.Test.YtppdkahgmojipaaProg
import Derived.KernelRfl
set_option linter.unusedVariables false
set_option linter.unusedSimpArgs false
set_option linter.unusedSectionVars false
set_option linter.defProp false
section
namespace Go.Q.SU
open Go.Q Go.Sort
open Nat renaming reduceEqDiff → n1w, reduceAdd → n2w, reduceSub → n3w, reduceLeDiff → n4w, reduceLT → n5w, reduceMul → n6w
open Int renaming reduceBNe → i1w, reduceBEq → i2w, reduceLT → i3w, reduceLE → i4w, reduceGT → i5w
theorem p8 (σ : Sto) (n lk : Nat) : primE T 8 [] σ n lk = some (.bool true, σ, n) := rfl
theorem right_fit {l : List Wr} (h : rightW l = true) : FitW l := ⟨by have := rightW_len h; omega, fun w hw => by
 have := rightW_ok h w hw
 unfold okW at this
 rw [Bool.and_eq_true] at this
 have h2 := this.2
 cases hg : w.g
 ·rw [hg] at h2
  simp only [Bool.false_eq_true, if_false] at h2
  have := (okV_some h2).2; omega
 ·rw [hg] at h2
  simp only [if_true, decide_eq_true_eq] at h2
  omega⟩
theorem right_sm {l : Option (List Wr)} (h : rightW (lst l) = true) : SmW l := ⟨by have := rightW_len h; omega, fun w hw => by have := (right_fit h).2 w hw; unfold Sm; omega⟩
theorem right_ok5 {l : List Wr} (h : rightW l = true) : ∀ w ∈ l, (lst w.v).length ≤ 5 := fun w hw => by
 have := rightW_ok h w hw
 unfold okW at this
 rw [Bool.and_eq_true] at this
 have h2 := this.2
 cases hg : w.g
 ·rw [hg] at h2
  simp only [Bool.false_eq_true, if_false] at h2
  have := (okV_some h2).2; omega
 ·rw [hg] at h2
  simp only [if_true, decide_eq_true_eq] at h2
  omega
def Rn (o : Option (List Rw)) (n : Int) : List Rw := (lst o).filter (blB n)
def Sn (o : Option (List Rw)) (L : List Wr) (n : Int) : List Rw := ovR (Rn o n) (L.filter fun w => w.c == n)
theorem Rn_asc {o : Option (List Rw)} (h : roU (lst o) (lst o).length = true) (n : Int) : Asc (Rn o n) := (ro_asc h).filter _
theorem Rn_len (o : Option (List Rw)) (n : Int) : (Rn o n).length ≤ (lst o).length := List.length_filter_le _ _
theorem s15 {o : Option (List Rw)} (h : roU (lst o) (lst o).length = true) (hl : (lst o).length ≤ 40) (l : Option (List Wr)) (hr : rightW (lst l) = true) (n : Int) (hn : collB n = true) (fs : Bool) (σ : Sto) (m lk : Nat) :
 callE T fs 15 [slV 4 wrV l, .int .i64 n, slV 2 rwV (oL (Rn o n))] σ m lk = some (.tup [slV 2 rwV (oL (Sn o (lst l) n)), .int .i64 0], σ, m) := by
 have hu : roU (lst (oL (Rn o n))) (lst (oL (Rn o n))).length = true := by rw [lst_oL]; exact roU_filter h _
 have hlen := Rn_len o n
 have := f15 l n (oL (Rn o n)) (right_fit hr) ⟨by rw [lst_oL]; omega, fun r hr' => by
  have := (okV_some (roU_ok hu r hr')).2; omega⟩ fs σ m lk
 have hE : ovE (lst l) n (lst (oL (Rn o n))) = 0 := by unfold ovE; rw [hr, hn, hu]; rfl
 rw [this, hE]
 unfold ovL
 rw [if_pos hE, lst_oL]; rfl
theorem s23 (o : Option (List Rw)) (hl : (lst o).length ≤ 40) (n : Int) (fs : Bool) (σ : Sto) (m lk : Nat) : callE T fs 23 [slV 2 rwV o, .int .i64 n] σ m lk = some (slV 2 rwV (oL (Rn o n)), σ, m) := f23 o n (by omega) fs σ m lk
theorem Sn_len {o : Option (List Rw)} (hl : (lst o).length ≤ 40) {L : List Wr} (hr : rightW L = true) (n : Int) : (Sn o L n).length ≤ 60 := by
 have h1 := ovR_len (Rn o n) (L.filter fun w => w.c == n)
 have h2 := Rn_len o n
 have h3 := List.length_filter_le (fun w : Wr => w.c == n) L
 have h4 := rightW_len hr
 unfold Sn; omega
def wv (o : Option (List Rw)) (L : List Wr) (j : Nat) : List V := [if 0 < j then slV 2 rwV (oL (Sn o L 0)) else .nilS, if 1 < j then slV 2 rwV (oL (Sn o L 1)) else .nilS, if 2 < j then slV 2 rwV (oL (Sn o L 2)) else .nilS]
theorem fr_eq (o : Option Rw) : ∃ a v, frV o = .tup [.agg [.int .u64 a, slV 1 i32V v], .bool o.isSome] ∧ ∀ x, o = some x → a = x.id ∧ v = x.v := by
 cases o with
 | none => exact ⟨0, none, rfl, fun x h => by cases h⟩
 | some x => exact ⟨x.id, x.v, rfl, fun y h => by cases h; exact ⟨rfl, rfl⟩⟩
theorem r6 (y : Option (List Rw)) (cs : Option (List Op)) (hy : SmR y) (hcl : (lst cs).length < 4611686018427387904) (hc : ∀ o ∈ lst cs, Sm o.v) : res T 6 [slV 2 rwV y, slV 5 opV cs] = some (.bool true) := by
 refine run_res (run_pure (fn := g6) rfl rfl (by decide) ?_)
 simp only [g6, b6, zO, zN, zM, zL, zG, zP, zQ, zI, zA, zT, zF, zB, zC, zD, zE, zH, zJ, zK]
 have f14' := f14 y hy
 have hr1 := cutRs_len y
 have hr2 := cutRs_v y
 obtain ⟨o, ho⟩ : ∃ o, o = cutRs y := ⟨_, rfl⟩
 rw [← ho] at f14' hr1 hr2
 have hsR : SmR o := ⟨by omega, fun r hr => by have := hr2 r hr; unfold Sm; omega⟩
 have hoR : SmRo (lst o) := ⟨by omega, fun r hr => by have := hr2 r hr; omega⟩
 have f15n := f15 none 0 o ⟨by simp [lst], by simp [lst]⟩ hoR
 have z0 : lst (none : Option (List Wr)) = [] := rfl
 have z1 : slV 4 wrV none = .nilS := rfl
 rw [z0, z1] at f15n
 have hrn : rightW [] = true := rfl
 have hc0 : collB 0 = true := rfl
 have hEn : ovE [] 0 (lst o) = if roU (lst o) (lst o).length = false then 170 else 0 := by unfold ovE; rw [hrn, hc0]; rfl
 rw [hEn] at f15n
 cases hro : roU (lst o) (lst o).length
 ·rw [hro] at f15n
  simp +contextual -implicitDefEqProofs (maxSteps := 2000000) only [↓wP, wQ, wQ1, wQ2, wQ3, wR, boxE, partsOf, ↓reduceIte, n1w, n2w, n3w, n4w, n5w, n6w, reduceCtorEq, i1w, i2w, i3w, i4w, i5w, p8, f14', f15n]
 rw [hro] at f15n
 simp only [Bool.true_eq_false, if_false] at f15n
 simp +contextual -implicitDefEqProofs (maxSteps := 2000000) only [↓wP, wQ, wQ1, wQ2, wQ3, wR, boxE, partsOf, ↓reduceIte, n1w, n2w, n3w, n4w, n5w, n6w, reduceCtorEq, i1w, i2w, i3w, i4w, i5w, p8, f14', f15n]
 refine WC_for (lst cs).length 0 (fun (j : Nat) env σ n => env 5 = slV 2 rwV o ∧ env 43 = slV 5 opV cs ∧ ∃ l, env 6 = slV 4 wrV l ∧ rightW (lst l) = true) (by omega) (by decide) (by decide) (fun _ _ => rfl) (fun _ _ _ => rfl) ?_ ?_ _ _ _ rfl rfl ?_
 ·intro j env σ n hj h1 h2 ⟨g1, g2, l, g3, hr⟩
  simp only [vl_tmp] at h2
  have hxj : (lst cs)[j]? = some (lst cs)[j] := List.getElem?_eq_getElem hj
  have hcj := hc _ (List.getElem_mem hj)
  generalize (lst cs)[j] = q at *
  by_cases h12 : j = 30
  ·have hd : ((j : Int) == 30) = true := by rw [h12]; rfl
   simp +contextual -implicitDefEqProofs (maxSteps := 2000000) only [↓wP, wQ, wQ1, wQ2, wQ3, wR, boxE, partsOf, ↓reduceIte, n1w, n2w, n3w, n4w, n5w, n6w, reduceCtorEq, i1w, i2w, i3w, i4w, i5w, h1, h2, g1, g2, hxj, opV_eq, hd]
  have hd : ((j : Int) == 30) = false := by simp; omega
  obtain ⟨σ1, hσ1⟩ : ∃ σ1, σ1 = upd (upd σ n (some (.row 5 [.agg [.bool false, .bool false, .int .i64 0, .int .u64 0, .nilS]]))) n (some (.row 5 [.agg [.bool q.d, .bool q.th, .int .i64 q.c, .int .u64 q.id, slV 1 i32V q.v]])) := ⟨_, rfl⟩
  have sn : σ1 n = some (.row 5 [.agg [.bool q.d, .bool q.th, .int .i64 q.c, .int .u64 q.id, slV 1 i32V q.v]]) := by rw [hσ1, upd_self]
  by_cases hlt : q.c < 0
  ·simp +contextual -implicitDefEqProofs (maxSteps := 2000000) only [↓wP, wQ, wQ1, wQ2, wQ3, wR, boxE, partsOf, ↓reduceIte, n1w, n2w, n3w, n4w, n5w, n6w, reduceCtorEq, i1w, i2w, i3w, i4w, i5w, h1, h2, g1, g2, g3, hxj, opV_eq, hd, ← hσ1, sn, hlt]
  by_cases hge : 3 ≤ q.c
  ·simp +contextual -implicitDefEqProofs (maxSteps := 2000000) only [↓wP, wQ, wQ1, wQ2, wQ3, wR, boxE, partsOf, ↓reduceIte, n1w, n2w, n3w, n4w, n5w, n6w, reduceCtorEq, i1w, i2w, i3w, i4w, i5w, h1, h2, g1, g2, g3, hxj, opV_eq, hd, ← hσ1, sn, hlt, hge]
  have hcq : collB q.c = true := by unfold collB; simp; omega
  simp +contextual -implicitDefEqProofs (maxSteps := 2000000) only [↓wP, wQ, wQ1, wQ2, wQ3, wR, boxE, partsOf, ↓reduceIte, n1w, n2w, n3w, n4w, n5w, n6w, reduceCtorEq, i1w, i2w, i3w, i4w, i5w, h1, h2, g1, g2, g3, hxj, opV_eq, hd, ← hσ1, sn, hlt, hge]
  obtain ⟨c, hcc, hc3⟩ : ∃ c : Nat, q.c = (c : Int) ∧ c < 3 := ⟨q.c.toNat, by omega, by omega⟩
  rw [hcc] at sn
  obtain ⟨d, hd0⟩ : ∃ d, d = q.d := ⟨_, rfl⟩
  rw [← hd0] at sn
  have cS : ∀ m : Int, 0 ≤ m → m < 3 → collB m = true := fun m h1 h2 => by unfold collB; simp; omega
  have e15 : ∀ m : Int, 0 ≤ m → m < 3 → ∀ (fs : Bool) (σ : Sto) (k lk : Nat), callE T fs 15 [slV 4 wrV l, .int .i64 m, slV 2 rwV (oL (Rn o m))] σ k lk = some (.tup [slV 2 rwV (oL (Sn o (lst l) m)), .int .i64 0], σ, k) := fun m h1 h2 => s15 hro hr1 l hr m (cS m h1 h2)
  have e23 := fun m : Int => s23 o hr1 m
  have z5 : ((0 : Int) != 0) = false := rfl
  refine WC_cutB (fun env σ' n' => env 5 = slV 2 rwV o ∧ env 6 = slV 4 wrV l ∧ env 10 = .ptr n 5 0 0 ∧ env 11 = .ptr (n + 1) 3 0 0 ∧ env 43 = slV 5 opV cs ∧ env 44 = .int .i64 ((lst cs).length : Int) ∧ env 45 = .int .i64 (j : Int) ∧
   n + 2 ≤ n' ∧ σ' n = σ1 n ∧ σ' (n + 1) = some (.row 3 [.agg (wv o (lst l) 3)])) ?_ ?_
  ·refine WC_for 3 0 (fun (j' : Nat) env σ' n' => env 5 = slV 2 rwV o ∧ env 6 = slV 4 wrV l ∧ env 10 = .ptr n 5 0 0 ∧ env 11 = .ptr (n + 1) 3 0 0 ∧ env 43 = slV 5 opV cs ∧ env 44 = .int .i64 ((lst cs).length : Int) ∧ env 45 = .int .i64 (j : Int) ∧
    n + 2 ≤ n' ∧ σ' n = σ1 n ∧ σ' (n + 1) = some (.row 3 [.agg (wv o (lst l) j')])) (by omega) (by decide) (by decide) (fun _ _ => rfl) (fun _ _ _ => rfl) ?_ ?_ _ _ _ rfl rfl ?_
   ·clear h1 h2 g1 g2 g3
    intro j' env σ' n' hj' e1 e2 ⟨c1, c2, c3, c4, c5, c6, c7, d1, d2, d3⟩
    have hj3 : j' = 0 ∨ j' = 1 ∨ j' = 2 := by omega
    have y1 : (n = n + 1) = False := by simp
    have y2 : (n + 1 = n) = False := by simp
    have k0 := e15 0 (by decide) (by decide)
    have k1 := e15 1 (by decide) (by decide)
    have k2 := e15 2 (by decide) (by decide)
    rcases hj3 with rfl | rfl | rfl
    ·simp only [wv] at d3 ⊢
     simp +contextual -implicitDefEqProofs (maxSteps := 2000000) only [↓wP, wQ, wQ1, wQ2, wQ3, wR, boxE, partsOf, ↓reduceIte, n1w, n2w, n3w, n4w, n5w, n6w, reduceCtorEq, i1w, i2w, i3w, i4w, i5w, e1, e2, c1, c2, c3, c4, c5, c6, c7, d3, e23, k0, z5, Int.natCast_zero]
     exact ⟨rfl, d1, d2⟩
    ·have y3 : ((1 : Nat) : Int) = 1 := rfl
     simp only [wv] at d3 ⊢
     simp +contextual -implicitDefEqProofs (maxSteps := 2000000) only [↓wP, wQ, wQ1, wQ2, wQ3, wR, boxE, partsOf, ↓reduceIte, n1w, n2w, n3w, n4w, n5w, n6w, reduceCtorEq, i1w, i2w, i3w, i4w, i5w, e1, e2, c1, c2, c3, c4, c5, c6, c7, d3, e23, k1, z5, y3]
     exact ⟨rfl, d1, d2⟩
    ·have y3 : ((2 : Nat) : Int) = 2 := rfl
     simp only [wv] at d3 ⊢
     simp +contextual -implicitDefEqProofs (maxSteps := 2000000) only [↓wP, wQ, wQ1, wQ2, wQ3, wR, boxE, partsOf, ↓reduceIte, n1w, n2w, n3w, n4w, n5w, n6w, reduceCtorEq, i1w, i2w, i3w, i4w, i5w, e1, e2, c1, c2, c3, c4, c5, c6, c7, d3, e23, k2, z5, y3]
     exact ⟨rfl, d1, d2⟩
   ·intro env σ' n' ⟨c1, c2, c3, c4, c5, c6, c7, d1, d2, d3⟩ e1 e2
    exact ⟨rfl, rfl, c1, c2, c3, c4, c5, c6, c7, d1, d2, d3⟩
   ·simp +contextual -implicitDefEqProofs (maxSteps := 2000000) only [↓wP, wQ, wQ1, wQ2, wQ3, wR, boxE, partsOf, ↓reduceIte, n1w, n2w, n3w, n4w, n5w, n6w, reduceCtorEq, i1w, i2w, i3w, i4w, i5w, h1, h2, g1, g2, g3]
    rfl
  ·clear h1 h2 g1 g2 g3
   intro env σ2 n2 ⟨c1, c2, c3, c4, c5, c6, c7, d1, d2, d3⟩
   rw [sn] at d2
   have hwv : wv o (lst l) 3 = [slV 2 rwV (oL (Sn o (lst l) 0)), slV 2 rwV (oL (Sn o (lst l) 1)), slV 2 rwV (oL (Sn o (lst l) 2))] := rfl
   rw [hwv] at d3
   have f24a := fun (fs : Bool) (σ : Sto) (m lk : Nat) => f24 (oL (Rn o (c : Int))) q.id (by rw [lst_oL]; have := Rn_len o (c : Int); omega) fs σ m lk
   rw [lst_oL] at f24a
   obtain ⟨th, hth⟩ : ∃ th, th = ((Rn o (c : Int)).find? fun x => x.id == q.id).isSome := ⟨_, rfl⟩
   obtain ⟨a0, v0, hfr, -⟩ := fr_eq ((Rn o (c : Int)).find? fun x => x.id == q.id)
   rw [hfr, ← hth] at f24a
   have hBp := big_le
   have x0 : ∀ hid, hide σ2 n2 n2 hid n = σ2 n := fun hid => hide_low _ _ _ _ (by omega) (Nat.le_refl _)
   have x1 : (n2 + 1 ≤ n2 + BIG) = True := by simp; omega
   obtain ⟨M, hM⟩ : ∃ M, M = merge σ2 (upd σ2 n2 (some (Ob.row 2 [.agg [.int .u64 0, .nilS]]))) n2 := ⟨_, rfl⟩
   have Ml : ∀ i, i < n2 → M i = σ2 i := fun i hi => by rw [hM, merge_low _ _ _ hi]
   have m1 : M n2 = some (Ob.row 2 [.agg [.int .u64 0, .nilS]]) := by rw [hM, merge_in _ _ _ (Nat.le_refl _) (by omega), upd_self]
   have y1 : (n = n2) = False := by simp; omega
   have y2 : (n + 1 = n2) = False := by simp; omega
   have y3 : (n + 1 = n) = False := by simp
   have m2 : M n = some (.row 5 [.agg [.bool d, .bool q.th, .int .i64 (c : Int), .int .u64 q.id, slV 1 i32V q.v]]) := by rw [Ml n (by omega)]; exact d2
   have m3 : M (n + 1) = some (.row 3 [.agg [slV 2 rwV (oL (Sn o (lst l) 0)), slV 2 rwV (oL (Sn o (lst l) 1)), slV 2 rwV (oL (Sn o (lst l) 2))]]) := by rw [Ml (n + 1) (by omega)]; exact d3
   simp +contextual -implicitDefEqProofs (maxSteps := 2000000) only [↓wP, wQ, wQ1, wQ2, wQ3, wR, boxE, partsOf, ↓reduceIte, n1w, n2w, n3w, n4w, n5w, n6w, reduceCtorEq, i1w, i2w, i3w, i4w, i5w, c1, c2, c3, c4, c5, c6, c7, d2, d3, e23, f24a, x0, x1, ← hM, m1, y1, y2, y3, m2, m3]
   obtain ⟨qq, hqq⟩ : ∃ qq : Op, qq = ⟨d, th, (c : Int), q.id, q.v⟩ := ⟨_, rfl⟩
   have hcq : collB qq.c = true := by rw [hqq]; exact cS (c : Int) (by omega) (by omega)
   obtain ⟨x11, r11a, ql, l1, l2, rfl⟩ := r11 l qq (right_fit hr) (by have := rightW_len hr; omega) (by rw [hqq]; exact hcj)
   have f11 := fun (σ : Sto) (m lk : Nat) => callE_tr (T := T) (f := 11) (by decide) r11a (by simp [Tr, Tr_slV, opV_eq]) (by simp [Nw, Nw_slV]) true σ m lk
   have hqV : opV qq = .agg [.bool d, .bool th, .int .i64 (c : Int), .int .u64 q.id, slV 1 i32V q.v] := by rw [hqq]; rfl
   rw [hqV] at f11
   obtain ⟨E, hE⟩ : ∃ E, E = runE (lst l) qq := ⟨_, rfl⟩
   rw [← hE] at f11
   obtain ⟨N, hN⟩ : ∃ N, N = upd (upd M n2 (some (Ob.row 2 [V.agg [V.int IntKind.u64 a0, slV 1 i32V v0]]))) n (some (Ob.row 5 [V.agg [V.bool d, V.bool th, V.int IntKind.i64 (c : Int), V.int IntKind.u64 q.id, slV 1 i32V q.v]])) := ⟨_, rfl⟩
   have N0 : N n = some (.row 5 [.agg [.bool d, .bool th, .int .i64 (c : Int), .int .u64 q.id, slV 1 i32V q.v]]) := by rw [hN, upd_self]
   have N1 : N (n + 1) = some (.row 3 [.agg [slV 2 rwV (oL (Sn o (lst l) 0)), slV 2 rwV (oL (Sn o (lst l) 1)), slV 2 rwV (oL (Sn o (lst l) 2))]]) := by rw [hN, upd_ne (by omega), upd_ne (by omega)]; exact m3
   obtain ⟨n3, hn3⟩ : ∃ n3, n3 = n2 + BIG := ⟨_, rfl⟩
   have hn3' : n2 ≤ n3 := by omega
   have x2 : ∀ hid, hide N n3 n3 hid n = N n := fun hid => hide_low _ _ _ _ (by omega) (Nat.le_refl _)
   have x3 : ∀ hid, hide N n3 n3 hid (n + 1) = N (n + 1) := fun hid => hide_low _ _ _ _ (by omega) (Nat.le_refl _)
   have x4 : (n3 + 1 ≤ n3 + BIG) = True := by simp; omega
   obtain ⟨M2, hM2⟩ : ∃ M2, M2 = merge N (upd N n3 (some (Ob.row 2 [.agg [.int .u64 0, .nilS]]))) n3 := ⟨_, rfl⟩
   have M2l : ∀ i, i < n3 → M2 i = N i := fun i hi => by rw [hM2, merge_low _ _ _ hi]
   have M2s : M2 n3 = some (Ob.row 2 [.agg [.int .u64 0, .nilS]]) := by rw [hM2, merge_in _ _ _ (Nat.le_refl _) (by omega), upd_self]
   have hdr : ∀ k : Nat, k < 3 → ∃ tl, List.drop k [slV 2 rwV (oL (Sn o (lst l) 0)), slV 2 rwV (oL (Sn o (lst l) 1)), slV 2 rwV (oL (Sn o (lst l) 2))] = slV 2 rwV (oL (Sn o (lst l) (k : Int))) :: tl := fun k hk => by
    have : k = 0 ∨ k = 1 ∨ k = 2 := by omega
    rcases this with rfl | rfl | rfl <;> exact ⟨_, rfl⟩
   obtain ⟨tl, hdc⟩ := hdr c hc3
   have f24b := fun (fs : Bool) (σ : Sto) (m lk : Nat) => f24 (oL (Sn o (lst l) (c : Int))) q.id (by rw [lst_oL]; have := Sn_len hr1 hr (c : Int); omega) fs σ m lk
   rw [lst_oL] at f24b
   obtain ⟨sb, hsb⟩ : ∃ sb, sb = ((Sn o (lst l) (c : Int)).find? fun x => x.id == q.id).isSome := ⟨_, rfl⟩
   obtain ⟨a1, v1, hfr1, -⟩ := fr_eq ((Sn o (lst l) (c : Int)).find? fun x => x.id == q.id)
   rw [hfr1, ← hsb] at f24b
   have hsaw : sb = sawB (lst l) qq.c qq.id qq.th := by
    rw [hsb, hqq, hth]
    exact seen_was (Rn_asc hro (c : Int)) hr (c : Int) q.id
   obtain ⟨M3, hM3⟩ : ∃ M3, M3 = upd M2 n3 (some (Ob.row 2 [V.agg [V.int IntKind.u64 a1, slV 1 i32V v1]])) := ⟨_, rfl⟩
   have P0 : M3 n = some (.row 5 [.agg [.bool d, .bool th, .int .i64 (c : Int), .int .u64 q.id, slV 1 i32V q.v]]) := by rw [hM3, upd_ne (by omega), M2l n (by omega)]; exact N0
   have P1 : M3 (n + 1) = some (.row 3 [.agg [slV 2 rwV (oL (Sn o (lst l) 0)), slV 2 rwV (oL (Sn o (lst l) 1)), slV 2 rwV (oL (Sn o (lst l) 2))]]) := by rw [hM3, upd_ne (by omega), M2l (n + 1) (by omega)]; exact N1
   obtain ⟨n4, hn4⟩ : ∃ n4, n4 = n3 + BIG := ⟨_, rfl⟩
   have hqd : qq.d = d := by rw [hqq]
   have x5 : (n3 + 1 ≤ n4) = True := by simp; omega
   by_cases hE0 : E = 0
   ·subst hE0
    have hz : ((0 : Int) != 0) = false := rfl
    obtain ⟨M', nx, hrq, hcase⟩ := run_next hr hcq hE.symm
    rw [← l1] at nx hrq
    have hqc : qq.c = (c : Int) := by rw [hqq]
    have hqi : qq.id = q.id := by rw [hqq]
    have hqt : qq.th = th := by rw [hqq]
    have hqv : qq.v = q.v := by rw [hqq]
    rw [hqc, hqi, hqv, hqd, hqt, ← hqt, ← hqi, ← hqc, ← hsaw, hqc, hqi, hqt] at hcase
    rw [hqc, hqi] at nx
    have e15q : ∀ m : Int, 0 ≤ m → m < 3 → ∀ (fs : Bool) (σ : Sto) (k lk : Nat), callE T fs 15 [slV 4 wrV ql, .int .i64 m, slV 2 rwV (oL (Rn o m))] σ k lk = some (.tup [slV 2 rwV (oL (Sn o (lst ql) m)), .int .i64 0], σ, k) := fun m h1 h2 => s15 hro hr1 ql hrq m (cS m h1 h2)
    have f25' := f25 ql (right_sm hrq)
    rw [hrq, if_pos rfl] at f25'
    have hRa := Rn_asc hro (c : Int)
    have hoth : ∀ k : Nat, k ≠ c → Sn o (lst ql) (k : Int) = Sn o (lst l) (k : Int) := fun k hk => by unfold Sn; rw [nx.other (by omega)]
    have smS : ∀ (L : List Wr) (k : Int), rightW L = true → SmR (oL (Sn o L k)) := fun L k hL => by
     have h1 := Sn_len hr1 hL k
     refine ⟨by rw [lst_oL]; omega, fun r hr' => ?_⟩
     rw [lst_oL] at hr'
     have := ovR_all (P := fun v => (lst v).length ≤ 5) (rows := Rn o k) (l := L.filter fun w => w.c == k) (fun r hr => hr2 r (List.mem_filter.1 hr).1) (fun w hw => by
      have := (right_ok5 hL) w (List.mem_filter.1 hw).1; exact this) r hr'
     unfold Sm; omega
    have hSa : Asc (Sn o (lst ql) (c : Int)) := ovR_asc _ _
    have hSb : Asc (Sn o (lst l) (c : Int)) := ovR_asc _ _
    have hrest : delR (Sn o (lst ql) (c : Int)) q.id = delR (Sn o (lst l) (c : Int)) q.id := nx.rest hr hrq hRa
    have hlenS : (Sn o (lst ql) (c : Int)).length ≤ (Sn o (lst l) (c : Int)).length + 1 := nx.len hr hrq hRa
    have hfx : ∀ x ∈ Sn o (lst l) (c : Int), x.id ≠ q.id → ((Sn o (lst ql) (c : Int)).find? fun y => y.id == x.id) = some x := fun x hx hne => by
     have : x ∈ delR (Sn o (lst ql) (c : Int)) q.id := by rw [hrest]; exact mem_delR.2 ⟨hx, hne⟩
     exact find_asc hSa (mem_delR.1 this).1
    have f24c := fun (i : Int) (fs : Bool) (σ : Sto) (m lk : Nat) => f24 (oL (Sn o (lst ql) (c : Int))) i (by rw [lst_oL]; have := Sn_len hr1 hrq (c : Int); omega) fs σ m lk
    simp only [lst_oL] at f24c
    have f28' := f28 ql (c : Int) q.id (by have := rightW_len hrq; omega) (right_sm hrq)
    rw [nx.find hrq] at f28'
    have hrw := nx.row hrq hRa
    cases d
    ·obtain ⟨-, hM', hokv⟩ := hcase.resolve_right (fun h => by cases h.1)
     subst hM'
     have hrow : ((Sn o (lst ql) (c : Int)).find? fun y => y.id == q.id) = some ⟨q.id, cut q.v⟩ := hrw (fun h => by cases h)
     have ff := f24c q.id
     rw [hrow] at ff
     have hfv : frV (some ⟨q.id, cut q.v⟩) = .tup [.agg [.int .u64 q.id, slV 1 i32V (cut q.v)], .bool true] := rfl
     rw [hfv] at ff
     have hfd : fdV (List.head? [(⟨(c : Int), q.id, false, cut q.v⟩ : Wr)]) = .tup [.agg [.int .i64 (c : Int), .int .u64 q.id, .bool false, slV 1 i32V (cut q.v)], .bool true] := rfl
     rw [hfd] at f28'
     have f27' := f27 q.v hcj
     simp +contextual -implicitDefEqProofs (maxSteps := 2000000) only [↓wP, wQ, wQ1, wQ2, wQ3, wR, boxE, partsOf, ↓reduceIte, n1w, n2w, n3w, n4w, n5w, n6w, reduceCtorEq, i1w, i2w, i3w, i4w, i5w, c1, c2, c3, c4, c5, c6, c7, f11, ← hN, Nat.mul_one, ← hn3, N0, N1, x2, x3, x4, x5, ← hM2, M2s, hc3, hdc, f24b, ← hM3, P0, P1, ← hn4, hz, f25']
     refine WC_cutB (fun env σ' n' => env 5 = slV 2 rwV o ∧ env 10 = .ptr n 5 0 0 ∧ env 16 = .bool th ∧ env 17 = slV 4 wrV ql ∧ env 43 = slV 5 opV cs ∧ env 44 = .int .i64 ((lst cs).length : Int) ∧ env 45 = .int .i64 (j : Int) ∧
      n + 2 ≤ n' ∧ σ' n = M3 n) ?_ ?_
     ·refine WC_for 3 0 (fun (k : Nat) env σ' n' => env 5 = slV 2 rwV o ∧ env 10 = .ptr n 5 0 0 ∧ env 11 = .ptr (n + 1) 3 0 0 ∧ env 16 = .bool th ∧ env 17 = slV 4 wrV ql ∧ env 43 = slV 5 opV cs ∧ env 44 = .int .i64 ((lst cs).length : Int) ∧ env 45 = .int .i64 (j : Int) ∧
       n + 2 ≤ n' ∧ σ' n = M3 n ∧ σ' (n + 1) = M3 (n + 1)) (by omega) (by decide) (by decide) (fun _ _ => rfl) (fun _ _ _ => rfl) ?_ ?_ _ _ _ rfl rfl ?_
      ·clear c1 c2 c3 c4 c5 c6 c7
       intro k env σ' n' hk3 e1 e2 ⟨c1, c2, c8, c3, c4, c5, c6, c7, w1, w2, w3⟩
       obtain ⟨tk, hdk⟩ := hdr k hk3
       have k15 := e15q (k : Int) (by omega) (by omega)
       rw [P0] at w2
       rw [P1] at w3
       have hz5 : ((0 : Int) != 0) = false := rfl
       by_cases hkc : k = c
       ·subst hkc
        have hz6 : ((k : Int) != (k : Int)) = false := by simp
        have hSl : (lst (oL (Sn o (lst l) (k : Int)))).length = (Sn o (lst l) (k : Int)).length := by rw [lst_oL]
        have hSq : (lst (oL (Sn o (lst ql) (k : Int)))).length = (Sn o (lst ql) (k : Int)).length := by rw [lst_oL]
        have hSl60 := Sn_len hr1 hr (k : Int)
        have hSq60 := Sn_len hr1 hrq (k : Int)
        have wl1 : IntKind.i64.wrap (((Sn o (lst l) (k : Int)).length : Int) + 1) = ((Sn o (lst l) (k : Int)).length : Int) + 1 := by rw [wrap_i64] <;> omega
        have wl2 : ¬ (((Sn o (lst l) (k : Int)).length : Int) + 1 < ((Sn o (lst ql) (k : Int)).length : Int)) := by omega
        obtain ⟨σa, hσa⟩ : ∃ σa, σa = upd (upd σ' n' (some (.row 2 [.agg [.int .u64 0, .nilS]]))) n' (some (.row 2 [.agg [.int .u64 q.id, slV 1 i32V (cut q.v)]])) := ⟨_, rfl⟩
        have sa : σa n' = some (.row 2 [.agg [.int .u64 q.id, slV 1 i32V (cut q.v)]]) := by rw [hσa, upd_self]
        have sal : ∀ i, i < n' → σa i = σ' i := fun i hi => by rw [hσa, upd_ne (by omega), upd_ne (by omega)]
        have A0 : σa n = some (.row 5 [.agg [.bool false, .bool th, .int .i64 (k : Int), .int .u64 q.id, slV 1 i32V q.v]]) := by rw [sal n (by omega)]; exact w2
        have A1 : σa (n + 1) = some (.row 3 [.agg [slV 2 rwV (oL (Sn o (lst l) 0)), slV 2 rwV (oL (Sn o (lst l) 1)), slV 2 rwV (oL (Sn o (lst l) 2))]]) := by rw [sal (n + 1) (by omega)]; exact w3
        obtain ⟨nn, hnn⟩ : ∃ nn, nn = n' + 1 := ⟨_, rfl⟩
        have xh0 : ∀ hid, hide σa nn nn hid n = σa n := fun hid => hide_low _ _ _ _ (by omega) (Nat.le_refl _)
        have xh1 : ∀ hid, hide σa nn nn hid n' = σa n' := fun hid => hide_low _ _ _ _ (by omega) (Nat.le_refl _)
        have x8 : (nn + 1 ≤ nn + BIG) = True := by simp; omega
        obtain ⟨M5, hM5⟩ : ∃ M5, M5 = merge σa (upd σa nn (some (.row 1 ((lst (cut q.v)).map i32V)))) nn := ⟨_, rfl⟩
        have M5l : ∀ i, i < nn → M5 i = σa i := fun i hi => by rw [hM5, merge_low _ _ _ hi]
        have M5v : M5 nn = some (.row 1 ((lst (cut q.v)).map i32V)) := by rw [hM5, merge_in _ _ _ (Nat.le_refl _) (by omega), upd_self]
        have m26 : [V.agg [.int .u64 q.id, slV 1 i32V (cut q.v)], .agg [.int .u64 q.id, .ref nn 0 (lst (cut q.v)).length 1]].mapM (Go.Q.frz M5 12) = some [rwV ⟨q.id, cut q.v⟩, rwV ⟨q.id, cut q.v⟩] := by
         simp only [List.mapM_cons, List.mapM_nil, frz_agg, frz_int, frz_slV, frz_cut M5v 9, rwV_eq]; rfl
        have hcv : Sm (cut q.v) := by
         have : (lst (cut q.v)).length ≤ 5 := by show ((lst q.v).take 5).length ≤ 5; rw [List.length_take]; omega
         unfold Sm; omega
        have hss0 : sameR1 (⟨q.id, cut q.v⟩ : Rw) ⟨q.id, cut q.v⟩ = true := by unfold sameR1; simp
        have w26 := callE_flat (f := 26) (by decide) m26 (r26 ⟨q.id, cut q.v⟩ ⟨q.id, cut q.v⟩ hcv) rfl true (nn + BIG * 1) 0
        rw [thaw_bool, hss0, Nat.mul_one] at w26
        have M50 : M5 n = some (.row 5 [.agg [.bool false, .bool th, .int .i64 (k : Int), .int .u64 q.id, slV 1 i32V q.v]]) := by rw [M5l n (by omega)]; exact A0
        have M51 : M5 (n + 1) = some (.row 3 [.agg [slV 2 rwV (oL (Sn o (lst l) 0)), slV 2 rwV (oL (Sn o (lst l) 1)), slV 2 rwV (oL (Sn o (lst l) 2))]]) := by rw [M5l (n + 1) (by omega)]; exact A1
        have hy1 : (n = n') = False := by simp; omega
        simp +contextual -implicitDefEqProofs (maxSteps := 2000000) only [↓wP, wQ, wQ1, wQ2, wQ3, wR, boxE, partsOf, ↓reduceIte, n1w, n2w, n3w, n4w, n5w, n6w, reduceCtorEq, i1w, i2w, i3w, i4w, i5w, e1, e2, c1, c2, c8, c3, c4, c5, c6, c7, w2, w3, hk3, e23, k15, hz5, hz6, ff, ← hσa, sa, A0, ← hnn, xh0, xh1, x8, f27', ← hM5, Nat.mul_one, w26, M50, M51, hdk, hSl]
        refine WC_cutB (fun env σ' n' => env 5 = slV 2 rwV o ∧ env 10 = .ptr n 5 0 0 ∧ env 11 = .ptr (n + 1) 3 0 0 ∧ env 16 = .bool th ∧ env 17 = slV 4 wrV ql ∧ env 21 = .int .i64 (k : Int) ∧ env 22 = slV 2 rwV (oL (Sn o (lst ql) (k : Int))) ∧ env 43 = slV 5 opV cs ∧ env 44 = .int .i64 ((lst cs).length : Int) ∧ env 45 = .int .i64 (j : Int) ∧ env 149 = .int .i64 (k : Int) ∧
         n + 2 ≤ n' ∧ σ' n = M3 n ∧ σ' (n + 1) = M3 (n + 1)) ?_ ?_
        ·refine WC_for (Sn o (lst l) (k : Int)).length 0 (fun (i : Nat) env σ' n' => env 5 = slV 2 rwV o ∧ env 10 = .ptr n 5 0 0 ∧ env 11 = .ptr (n + 1) 3 0 0 ∧ env 16 = .bool th ∧ env 17 = slV 4 wrV ql ∧ env 21 = .int .i64 (k : Int) ∧ env 22 = slV 2 rwV (oL (Sn o (lst ql) (k : Int))) ∧ env 43 = slV 5 opV cs ∧ env 44 = .int .i64 ((lst cs).length : Int) ∧ env 45 = .int .i64 (j : Int) ∧ env 149 = .int .i64 (k : Int) ∧ env 200 = slV 2 rwV (oL (Sn o (lst l) (k : Int))) ∧
          n + 2 ≤ n' ∧ σ' n = M3 n ∧ σ' (n + 1) = M3 (n + 1)) (by omega) (by decide) (by decide) (fun _ _ => rfl) (fun _ _ _ => rfl) ?_ ?_ _ _ _ rfl rfl ?_
         ·clear e1 e2 c1 c2 c8 c3 c4 c5 c6 c7 w1 w2 w3
          intro i env σ' n' hi e1 e2 ⟨c1, c2, c8, c3, c4, c9, c10, c5, c6, c7, c11, c12, w1, w2, w3⟩
          simp only [vl_tmp] at e2
          have hxi : (lst (oL (Sn o (lst l) (k : Int))))[i]? = some (Sn o (lst l) (k : Int))[i] := by rw [lst_oL]; exact List.getElem?_eq_getElem hi
          have hxm := List.getElem_mem hi
          generalize (Sn o (lst l) (k : Int))[i] = x at *
          have hxs : Sm x.v := (smS (lst l) (k : Int) hr).2 x (by rw [lst_oL]; exact hxm)
          have hil : i < (lst (oL (Sn o (lst l) (k : Int)))).length := by rw [lst_oL]; exact hi
          rw [P0] at w2
          rw [P1] at w3
          obtain ⟨σb, hσb⟩ : ∃ σb, σb = upd (upd σ' n' (some (.row 2 [.agg [.int .u64 0, .nilS]]))) n' (some (.row 2 [.agg [.int .u64 x.id, slV 1 i32V x.v]])) := ⟨_, rfl⟩
          have sb0 : σb n' = some (.row 2 [.agg [.int .u64 x.id, slV 1 i32V x.v]]) := by rw [hσb, upd_self]
          have sbl : ∀ i, i < n' → σb i = σ' i := fun i hi => by rw [hσb, upd_ne (by omega), upd_ne (by omega)]
          have B0 : σb n = some (.row 5 [.agg [.bool false, .bool th, .int .i64 (k : Int), .int .u64 q.id, slV 1 i32V q.v]]) := by rw [sbl n (by omega)]; exact w2
          have fx := f24c x.id
          by_cases hne : x.id = q.id
          ·have hz7 : (x.id != q.id) = false := by simp [hne]
           obtain ⟨a3, v3, hfr3, -⟩ := fr_eq ((Sn o (lst ql) (k : Int)).find? fun y => y.id == x.id)
           rw [hfr3] at fx
           obtain ⟨σc, hσc⟩ : ∃ σc, σc = upd (upd σb (n' + 1) (some (.row 2 [.agg [.int .u64 0, .nilS]]))) (n' + 1) (some (.row 2 [.agg [.int .u64 a3, slV 1 i32V v3]])) := ⟨_, rfl⟩
           have scl : ∀ i, i < n' + 1 → σc i = σb i := fun i hi => by rw [hσc, upd_ne (by omega), upd_ne (by omega)]
           have C0 : σc n = some (.row 5 [.agg [.bool false, .bool th, .int .i64 (k : Int), .int .u64 q.id, slV 1 i32V q.v]]) := by rw [scl n (by omega)]; exact B0
           have C1 : σc n' = some (.row 2 [.agg [.int .u64 x.id, slV 1 i32V x.v]]) := by rw [scl n' (by omega)]; exact sb0
           simp +contextual -implicitDefEqProofs (maxSteps := 2000000) only [↓wP, wQ, wQ1, wQ2, wQ3, wR, boxE, partsOf, ↓reduceIte, n1w, n2w, n3w, n4w, n5w, n6w, reduceCtorEq, i1w, i2w, i3w, i4w, i5w, e1, e2, c1, c2, c8, c3, c4, c9, c10, c5, c6, c7, c11, c12, hxi, hil, rwV_eq, ← hσb, sb0, fx, ← hσc, C0, C1, B0, hz7]
           refine ⟨by omega, P0.symm, ?_⟩
           rw [scl (n + 1) (by omega), sbl (n + 1) (by omega), P1]; exact w3
          ·have hz7 : (x.id != q.id) = true := by simp [hne]
           rw [hfx x hxm hne] at fx
           have hfv2 : frV (some x) = .tup [.agg [.int .u64 x.id, slV 1 i32V x.v], .bool true] := rfl
           rw [hfv2] at fx
           have f26x := f26 x x hxs
           have hss : sameR1 x x = true := by unfold sameR1; simp
           rw [hss, rwV_eq] at f26x
           obtain ⟨σc, hσc⟩ : ∃ σc, σc = upd (upd σb (n' + 1) (some (.row 2 [.agg [.int .u64 0, .nilS]]))) (n' + 1) (some (.row 2 [.agg [.int .u64 x.id, slV 1 i32V x.v]])) := ⟨_, rfl⟩
           have scl : ∀ i, i < n' + 1 → σc i = σb i := fun i hi => by rw [hσc, upd_ne (by omega), upd_ne (by omega)]
           have C0 : σc n = some (.row 5 [.agg [.bool false, .bool th, .int .i64 (k : Int), .int .u64 q.id, slV 1 i32V q.v]]) := by rw [scl n (by omega)]; exact B0
           have C1 : σc n' = some (.row 2 [.agg [.int .u64 x.id, slV 1 i32V x.v]]) := by rw [scl n' (by omega)]; exact sb0
           have C2 : σc (n' + 1) = some (.row 2 [.agg [.int .u64 x.id, slV 1 i32V x.v]]) := by rw [hσc, upd_self]
           simp +contextual -implicitDefEqProofs (maxSteps := 2000000) only [↓wP, wQ, wQ1, wQ2, wQ3, wR, boxE, partsOf, ↓reduceIte, n1w, n2w, n3w, n4w, n5w, n6w, reduceCtorEq, i1w, i2w, i3w, i4w, i5w, e1, e2, c1, c2, c8, c3, c4, c9, c10, c5, c6, c7, c11, c12, hxi, hil, rwV_eq, ← hσb, sb0, fx, ← hσc, C0, C1, C2, B0, hz7, f26x]
           refine ⟨by omega, P0.symm, ?_⟩
           rw [scl (n + 1) (by omega), sbl (n + 1) (by omega), P1]; exact w3
         ·intro env σ' n' ⟨c1, c2, c8, c3, c4, c9, c10, c5, c6, c7, c11, c12, w1, w2, w3⟩ e1 e2
          exact ⟨rfl, rfl, c1, c2, c8, c3, c4, c9, c10, c5, c6, c7, c11, w1, w2, w3⟩
         ·simp +contextual -implicitDefEqProofs (maxSteps := 2000000) only [↓wP, wQ, wQ1, wQ2, wQ3, wR, boxE, partsOf, ↓reduceIte, n1w, n2w, n3w, n4w, n5w, n6w, reduceCtorEq, i1w, i2w, i3w, i4w, i5w, c1, c2, c8, c3, c4, c5, c6, c7]
          exact ⟨e1, by omega, by rw [P0]; exact M50, by rw [P1]; exact M51⟩
        ·clear e1 e2 c1 c2 c8 c3 c4 c5 c6 c7 w1 w2 w3
         intro env σ' n' ⟨c1, c2, c8, c3, c4, c9, c10, c5, c6, c7, c11, w1, w2, w3⟩
         rw [P0] at w2
         rw [P1] at w3
         simp +contextual -implicitDefEqProofs (maxSteps := 2000000) only [↓wP, wQ, wQ1, wQ2, wQ3, wR, boxE, partsOf, ↓reduceIte, n1w, n2w, n3w, n4w, n5w, n6w, reduceCtorEq, i1w, i2w, i3w, i4w, i5w, c1, c2, c8, c3, c4, c9, c10, c5, c6, c7, c11, w2, w3, hk3, Nat.mul_one, hdk, hSl, hSq, wl1, wl2]
         rw [P0, P1]; first | exact ⟨rfl, w1, rfl, rfl⟩ | exact ⟨w1, rfl, rfl⟩ | exact ⟨e1, w1, rfl, rfl⟩ | exact ⟨w1, w2, w3⟩ | exact ⟨c11, w1, rfl, rfl⟩
       ·have hz6 : ((k : Int) != (c : Int)) = true := by simp; omega
        have f22' := f22 (oL (Sn o (lst ql) (k : Int))) (oL (Sn o (lst l) (k : Int))) (smS _ _ hrq) (smS _ _ hr)
        rw [lst_oL, lst_oL, hoth k hkc, same_r rfl, ← hoth k hkc] at f22'
        rw [← hoth k hkc] at hdk
        have f22q : ∀ (fs : Bool) (σ : Sto) (m lk : Nat), callE T fs 22 [slV 2 rwV (oL (Sn o (lst ql) (k : Int))), slV 2 rwV (oL (Sn o (lst ql) (k : Int)))] σ m lk = some (.bool true, σ, m) := f22'
        simp +contextual -implicitDefEqProofs (maxSteps := 2000000) only [↓wP, wQ, wQ1, wQ2, wQ3, wR, boxE, partsOf, ↓reduceIte, n1w, n2w, n3w, n4w, n5w, n6w, reduceCtorEq, i1w, i2w, i3w, i4w, i5w, e1, e2, c1, c2, c8, c3, c4, c5, c6, c7, w2, w3, hk3, e23, k15, hz5, hz6, Nat.mul_one, hdk, f22q]
        rw [P0, P1]; first | exact ⟨rfl, w1, rfl, rfl⟩ | exact ⟨w1, rfl, rfl⟩ | exact ⟨e1, w1, rfl, rfl⟩ | exact ⟨w1, w2, w3⟩ | exact ⟨c11, w1, rfl, rfl⟩
      ·intro env σ' n' ⟨c1, c2, c8, c3, c4, c5, c6, c7, w1, w2, w3⟩ e1 e2
       exact ⟨rfl, rfl, c1, c2, c3, c4, c5, c6, c7, w1, w2⟩
      ·simp +contextual -implicitDefEqProofs (maxSteps := 2000000) only [↓wP, wQ, wQ1, wQ2, wQ3, wR, boxE, partsOf, ↓reduceIte, n1w, n2w, n3w, n4w, n5w, n6w, reduceCtorEq, i1w, i2w, i3w, i4w, i5w, c1, c2, c3, c4, c5, c6, c7]
       omega
     ·clear c1 c2 c3 c4 c5 c6 c7
      intro env σ' n' ⟨c1, c2, c3, c4, c5, c6, c7, w1, w2⟩
      rw [P0] at w2
      have q0 : (n = n') = False := by simp; omega
      simp +contextual -implicitDefEqProofs (maxSteps := 2000000) only [↓wP, wQ, wQ1, wQ2, wQ3, wR, boxE, partsOf, ↓reduceIte, n1w, n2w, n3w, n4w, n5w, n6w, reduceCtorEq, i1w, i2w, i3w, i4w, i5w, c1, c2, c3, c4, c5, c6, c7, w2, f28', q0]
      exact ⟨ql, rfl, hrq⟩
    ·obtain ⟨-, hsb1, hM'⟩ := hcase.resolve_left (fun h => by cases h.1)
     subst hsb1
     have hrow : ((Sn o (lst ql) (c : Int)).find? fun y => y.id == q.id) = none := by
      rcases hM' with ⟨ht, rfl⟩ | ⟨-, rfl⟩
      ·refine hrw (fun _ => ?_)
       rw [ht] at hth
       refine find_none.1 ?_
       cases hq : (Rn o (c : Int)).find? (fun x => x.id == q.id) with
       | none => rfl
       | some y => rw [hq] at hth; cases hth
      ·exact hrw (fun h => by cases h)
     have ff := f24c q.id
     rw [hrow] at ff
     have hfv : frV none = .tup [.agg [.int .u64 0, .nilS], .bool false] := rfl
     rw [hfv] at ff
     have hfd : ∃ (a2 b2 : Int) (g2 : Bool) (v2 : Vc) (k2 : Bool), fdV M'.head? = .tup [.agg [.int .i64 a2, .int .u64 b2, .bool g2, slV 1 i32V v2], .bool k2] ∧ (k2 = true → g2 = true → th = true) := by
      rcases hM' with ⟨ht, rfl⟩ | ⟨ht, rfl⟩
      ·exact ⟨0, 0, false, none, false, rfl, fun h => by cases h⟩
      ·exact ⟨_, _, _, none, true, rfl, fun _ _ => ht⟩
     obtain ⟨a2, b2, g2, v2, k2, hfd, hkg⟩ := hfd
     rw [hfd] at f28'
     simp +contextual -implicitDefEqProofs (maxSteps := 2000000) only [↓wP, wQ, wQ1, wQ2, wQ3, wR, boxE, partsOf, ↓reduceIte, n1w, n2w, n3w, n4w, n5w, n6w, reduceCtorEq, i1w, i2w, i3w, i4w, i5w, c1, c2, c3, c4, c5, c6, c7, f11, ← hN, Nat.mul_one, ← hn3, N0, N1, x2, x3, x4, x5, ← hM2, M2s, hc3, hdc, f24b, ← hM3, P0, P1, ← hn4, hz, f25']
     refine WC_cutB (fun env σ' n' => env 5 = slV 2 rwV o ∧ env 10 = .ptr n 5 0 0 ∧ env 16 = .bool th ∧ env 17 = slV 4 wrV ql ∧ env 43 = slV 5 opV cs ∧ env 44 = .int .i64 ((lst cs).length : Int) ∧ env 45 = .int .i64 (j : Int) ∧
      n + 2 ≤ n' ∧ σ' n = M3 n) ?_ ?_
     ·refine WC_for 3 0 (fun (k : Nat) env σ' n' => env 5 = slV 2 rwV o ∧ env 10 = .ptr n 5 0 0 ∧ env 11 = .ptr (n + 1) 3 0 0 ∧ env 16 = .bool th ∧ env 17 = slV 4 wrV ql ∧ env 43 = slV 5 opV cs ∧ env 44 = .int .i64 ((lst cs).length : Int) ∧ env 45 = .int .i64 (j : Int) ∧
       n + 2 ≤ n' ∧ σ' n = M3 n ∧ σ' (n + 1) = M3 (n + 1)) (by omega) (by decide) (by decide) (fun _ _ => rfl) (fun _ _ _ => rfl) ?_ ?_ _ _ _ rfl rfl ?_
      ·clear c1 c2 c3 c4 c5 c6 c7
       intro k env σ' n' hk3 e1 e2 ⟨c1, c2, c8, c3, c4, c5, c6, c7, w1, w2, w3⟩
       obtain ⟨tk, hdk⟩ := hdr k hk3
       have k15 := e15q (k : Int) (by omega) (by omega)
       rw [P0] at w2
       rw [P1] at w3
       have hz5 : ((0 : Int) != 0) = false := rfl
       by_cases hkc : k = c
       ·subst hkc
        have hz6 : ((k : Int) != (k : Int)) = false := by simp
        have hSl : (lst (oL (Sn o (lst l) (k : Int)))).length = (Sn o (lst l) (k : Int)).length := by rw [lst_oL]
        have hSq : (lst (oL (Sn o (lst ql) (k : Int)))).length = (Sn o (lst ql) (k : Int)).length := by rw [lst_oL]
        have hSl60 := Sn_len hr1 hr (k : Int)
        have hSq60 := Sn_len hr1 hrq (k : Int)
        have wl1 : IntKind.i64.wrap (((Sn o (lst l) (k : Int)).length : Int) + 1) = ((Sn o (lst l) (k : Int)).length : Int) + 1 := by rw [wrap_i64] <;> omega
        have wl2 : ¬ (((Sn o (lst l) (k : Int)).length : Int) + 1 < ((Sn o (lst ql) (k : Int)).length : Int)) := by omega
        obtain ⟨σa, hσa⟩ : ∃ σa, σa = upd (upd σ' n' (some (.row 2 [.agg [.int .u64 0, .nilS]]))) n' (some (.row 2 [.agg [.int .u64 0, .nilS]])) := ⟨_, rfl⟩
        have sa : σa n' = some (.row 2 [.agg [.int .u64 0, .nilS]]) := by rw [hσa, upd_self]
        have sal : ∀ i, i < n' → σa i = σ' i := fun i hi => by rw [hσa, upd_ne (by omega), upd_ne (by omega)]
        have A0 : σa n = some (.row 5 [.agg [.bool true, .bool th, .int .i64 (k : Int), .int .u64 q.id, slV 1 i32V q.v]]) := by rw [sal n (by omega)]; exact w2
        have A1 : σa (n + 1) = some (.row 3 [.agg [slV 2 rwV (oL (Sn o (lst l) 0)), slV 2 rwV (oL (Sn o (lst l) 1)), slV 2 rwV (oL (Sn o (lst l) 2))]]) := by rw [sal (n + 1) (by omega)]; exact w3
        obtain ⟨nn, hnn⟩ : ∃ nn, nn = n' + 1 := ⟨_, rfl⟩
        have xh0 : ∀ hid, hide σa nn nn hid n = σa n := fun hid => hide_low _ _ _ _ (by omega) (Nat.le_refl _)
        have xh1 : ∀ hid, hide σa nn nn hid n' = σa n' := fun hid => hide_low _ _ _ _ (by omega) (Nat.le_refl _)
        have hy1 : (n = n') = False := by simp; omega
        simp +contextual -implicitDefEqProofs (maxSteps := 2000000) only [↓wP, wQ, wQ1, wQ2, wQ3, wR, boxE, partsOf, ↓reduceIte, n1w, n2w, n3w, n4w, n5w, n6w, reduceCtorEq, i1w, i2w, i3w, i4w, i5w, e1, e2, c1, c2, c8, c3, c4, c5, c6, c7, w2, w3, hk3, e23, k15, hz5, hz6, ff, ← hσa, sa, A0, A1, ← hnn, xh0, xh1, Nat.mul_one, hdk, hSl]
        refine WC_cutB (fun env σ' n' => env 5 = slV 2 rwV o ∧ env 10 = .ptr n 5 0 0 ∧ env 11 = .ptr (n + 1) 3 0 0 ∧ env 16 = .bool th ∧ env 17 = slV 4 wrV ql ∧ env 21 = .int .i64 (k : Int) ∧ env 22 = slV 2 rwV (oL (Sn o (lst ql) (k : Int))) ∧ env 43 = slV 5 opV cs ∧ env 44 = .int .i64 ((lst cs).length : Int) ∧ env 45 = .int .i64 (j : Int) ∧ env 149 = .int .i64 (k : Int) ∧
         n + 2 ≤ n' ∧ σ' n = M3 n ∧ σ' (n + 1) = M3 (n + 1)) ?_ ?_
        ·refine WC_for (Sn o (lst l) (k : Int)).length 0 (fun (i : Nat) env σ' n' => env 5 = slV 2 rwV o ∧ env 10 = .ptr n 5 0 0 ∧ env 11 = .ptr (n + 1) 3 0 0 ∧ env 16 = .bool th ∧ env 17 = slV 4 wrV ql ∧ env 21 = .int .i64 (k : Int) ∧ env 22 = slV 2 rwV (oL (Sn o (lst ql) (k : Int))) ∧ env 43 = slV 5 opV cs ∧ env 44 = .int .i64 ((lst cs).length : Int) ∧ env 45 = .int .i64 (j : Int) ∧ env 149 = .int .i64 (k : Int) ∧ env 200 = slV 2 rwV (oL (Sn o (lst l) (k : Int))) ∧
          n + 2 ≤ n' ∧ σ' n = M3 n ∧ σ' (n + 1) = M3 (n + 1)) (by omega) (by decide) (by decide) (fun _ _ => rfl) (fun _ _ _ => rfl) ?_ ?_ _ _ _ rfl rfl ?_
         ·clear e1 e2 c1 c2 c8 c3 c4 c5 c6 c7 w1 w2 w3
          intro i env σ' n' hi e1 e2 ⟨c1, c2, c8, c3, c4, c9, c10, c5, c6, c7, c11, c12, w1, w2, w3⟩
          simp only [vl_tmp] at e2
          have hxi : (lst (oL (Sn o (lst l) (k : Int))))[i]? = some (Sn o (lst l) (k : Int))[i] := by rw [lst_oL]; exact List.getElem?_eq_getElem hi
          have hxm := List.getElem_mem hi
          generalize (Sn o (lst l) (k : Int))[i] = x at *
          have hxs : Sm x.v := (smS (lst l) (k : Int) hr).2 x (by rw [lst_oL]; exact hxm)
          have hil : i < (lst (oL (Sn o (lst l) (k : Int)))).length := by rw [lst_oL]; exact hi
          rw [P0] at w2
          rw [P1] at w3
          obtain ⟨σb, hσb⟩ : ∃ σb, σb = upd (upd σ' n' (some (.row 2 [.agg [.int .u64 0, .nilS]]))) n' (some (.row 2 [.agg [.int .u64 x.id, slV 1 i32V x.v]])) := ⟨_, rfl⟩
          have sb0 : σb n' = some (.row 2 [.agg [.int .u64 x.id, slV 1 i32V x.v]]) := by rw [hσb, upd_self]
          have sbl : ∀ i, i < n' → σb i = σ' i := fun i hi => by rw [hσb, upd_ne (by omega), upd_ne (by omega)]
          have B0 : σb n = some (.row 5 [.agg [.bool true, .bool th, .int .i64 (k : Int), .int .u64 q.id, slV 1 i32V q.v]]) := by rw [sbl n (by omega)]; exact w2
          have fx := f24c x.id
          by_cases hne : x.id = q.id
          ·have hz7 : (x.id != q.id) = false := by simp [hne]
           obtain ⟨a3, v3, hfr3, -⟩ := fr_eq ((Sn o (lst ql) (k : Int)).find? fun y => y.id == x.id)
           rw [hfr3] at fx
           obtain ⟨σc, hσc⟩ : ∃ σc, σc = upd (upd σb (n' + 1) (some (.row 2 [.agg [.int .u64 0, .nilS]]))) (n' + 1) (some (.row 2 [.agg [.int .u64 a3, slV 1 i32V v3]])) := ⟨_, rfl⟩
           have scl : ∀ i, i < n' + 1 → σc i = σb i := fun i hi => by rw [hσc, upd_ne (by omega), upd_ne (by omega)]
           have C0 : σc n = some (.row 5 [.agg [.bool true, .bool th, .int .i64 (k : Int), .int .u64 q.id, slV 1 i32V q.v]]) := by rw [scl n (by omega)]; exact B0
           have C1 : σc n' = some (.row 2 [.agg [.int .u64 x.id, slV 1 i32V x.v]]) := by rw [scl n' (by omega)]; exact sb0
           simp +contextual -implicitDefEqProofs (maxSteps := 2000000) only [↓wP, wQ, wQ1, wQ2, wQ3, wR, boxE, partsOf, ↓reduceIte, n1w, n2w, n3w, n4w, n5w, n6w, reduceCtorEq, i1w, i2w, i3w, i4w, i5w, e1, e2, c1, c2, c8, c3, c4, c9, c10, c5, c6, c7, c11, c12, hxi, hil, rwV_eq, ← hσb, sb0, fx, ← hσc, C0, C1, B0, hz7]
           refine ⟨by omega, P0.symm, ?_⟩
           rw [scl (n + 1) (by omega), sbl (n + 1) (by omega), P1]; exact w3
          ·have hz7 : (x.id != q.id) = true := by simp [hne]
           rw [hfx x hxm hne] at fx
           have hfv2 : frV (some x) = .tup [.agg [.int .u64 x.id, slV 1 i32V x.v], .bool true] := rfl
           rw [hfv2] at fx
           have f26x := f26 x x hxs
           have hss : sameR1 x x = true := by unfold sameR1; simp
           rw [hss, rwV_eq] at f26x
           obtain ⟨σc, hσc⟩ : ∃ σc, σc = upd (upd σb (n' + 1) (some (.row 2 [.agg [.int .u64 0, .nilS]]))) (n' + 1) (some (.row 2 [.agg [.int .u64 x.id, slV 1 i32V x.v]])) := ⟨_, rfl⟩
           have scl : ∀ i, i < n' + 1 → σc i = σb i := fun i hi => by rw [hσc, upd_ne (by omega), upd_ne (by omega)]
           have C0 : σc n = some (.row 5 [.agg [.bool true, .bool th, .int .i64 (k : Int), .int .u64 q.id, slV 1 i32V q.v]]) := by rw [scl n (by omega)]; exact B0
           have C1 : σc n' = some (.row 2 [.agg [.int .u64 x.id, slV 1 i32V x.v]]) := by rw [scl n' (by omega)]; exact sb0
           have C2 : σc (n' + 1) = some (.row 2 [.agg [.int .u64 x.id, slV 1 i32V x.v]]) := by rw [hσc, upd_self]
           simp +contextual -implicitDefEqProofs (maxSteps := 2000000) only [↓wP, wQ, wQ1, wQ2, wQ3, wR, boxE, partsOf, ↓reduceIte, n1w, n2w, n3w, n4w, n5w, n6w, reduceCtorEq, i1w, i2w, i3w, i4w, i5w, e1, e2, c1, c2, c8, c3, c4, c9, c10, c5, c6, c7, c11, c12, hxi, hil, rwV_eq, ← hσb, sb0, fx, ← hσc, C0, C1, C2, B0, hz7, f26x]
           refine ⟨by omega, P0.symm, ?_⟩
           rw [scl (n + 1) (by omega), sbl (n + 1) (by omega), P1]; exact w3
         ·intro env σ' n' ⟨c1, c2, c8, c3, c4, c9, c10, c5, c6, c7, c11, c12, w1, w2, w3⟩ e1 e2
          exact ⟨rfl, rfl, c1, c2, c8, c3, c4, c9, c10, c5, c6, c7, c11, w1, w2, w3⟩
         ·simp +contextual -implicitDefEqProofs (maxSteps := 2000000) only [↓wP, wQ, wQ1, wQ2, wQ3, wR, boxE, partsOf, ↓reduceIte, n1w, n2w, n3w, n4w, n5w, n6w, reduceCtorEq, i1w, i2w, i3w, i4w, i5w, c1, c2, c8, c3, c4, c5, c6, c7]
          exact ⟨e1, by omega, by rw [P0]; exact A0, by rw [P1]; exact A1⟩
        ·clear e1 e2 c1 c2 c8 c3 c4 c5 c6 c7 w1 w2 w3
         intro env σ' n' ⟨c1, c2, c8, c3, c4, c9, c10, c5, c6, c7, c11, w1, w2, w3⟩
         rw [P0] at w2
         rw [P1] at w3
         simp +contextual -implicitDefEqProofs (maxSteps := 2000000) only [↓wP, wQ, wQ1, wQ2, wQ3, wR, boxE, partsOf, ↓reduceIte, n1w, n2w, n3w, n4w, n5w, n6w, reduceCtorEq, i1w, i2w, i3w, i4w, i5w, c1, c2, c8, c3, c4, c9, c10, c5, c6, c7, c11, w2, w3, hk3, Nat.mul_one, hdk, hSl, hSq, wl1, wl2]
         rw [P0, P1]; first | exact ⟨rfl, w1, rfl, rfl⟩ | exact ⟨w1, rfl, rfl⟩ | exact ⟨e1, w1, rfl, rfl⟩ | exact ⟨w1, w2, w3⟩ | exact ⟨c11, w1, rfl, rfl⟩
       ·have hz6 : ((k : Int) != (c : Int)) = true := by simp; omega
        have f22' := f22 (oL (Sn o (lst ql) (k : Int))) (oL (Sn o (lst l) (k : Int))) (smS _ _ hrq) (smS _ _ hr)
        rw [lst_oL, lst_oL, hoth k hkc, same_r rfl, ← hoth k hkc] at f22'
        rw [← hoth k hkc] at hdk
        have f22q : ∀ (fs : Bool) (σ : Sto) (m lk : Nat), callE T fs 22 [slV 2 rwV (oL (Sn o (lst ql) (k : Int))), slV 2 rwV (oL (Sn o (lst ql) (k : Int)))] σ m lk = some (.bool true, σ, m) := f22'
        simp +contextual -implicitDefEqProofs (maxSteps := 2000000) only [↓wP, wQ, wQ1, wQ2, wQ3, wR, boxE, partsOf, ↓reduceIte, n1w, n2w, n3w, n4w, n5w, n6w, reduceCtorEq, i1w, i2w, i3w, i4w, i5w, e1, e2, c1, c2, c8, c3, c4, c5, c6, c7, w2, w3, hk3, e23, k15, hz5, hz6, Nat.mul_one, hdk, f22q]
        rw [P0, P1]; first | exact ⟨rfl, w1, rfl, rfl⟩ | exact ⟨w1, rfl, rfl⟩ | exact ⟨e1, w1, rfl, rfl⟩ | exact ⟨w1, w2, w3⟩ | exact ⟨c11, w1, rfl, rfl⟩
      ·intro env σ' n' ⟨c1, c2, c8, c3, c4, c5, c6, c7, w1, w2, w3⟩ e1 e2
       exact ⟨rfl, rfl, c1, c2, c3, c4, c5, c6, c7, w1, w2⟩
      ·simp +contextual -implicitDefEqProofs (maxSteps := 2000000) only [↓wP, wQ, wQ1, wQ2, wQ3, wR, boxE, partsOf, ↓reduceIte, n1w, n2w, n3w, n4w, n5w, n6w, reduceCtorEq, i1w, i2w, i3w, i4w, i5w, c1, c2, c3, c4, c5, c6, c7]
       omega
     ·clear c1 c2 c3 c4 c5 c6 c7
      intro env σ' n' ⟨c1, c2, c3, c4, c5, c6, c7, w1, w2⟩
      rw [P0] at w2
      have q0 : (n = n') = False := by simp; omega
      cases k2
      ·simp +contextual -implicitDefEqProofs (maxSteps := 2000000) only [↓wP, wQ, wQ1, wQ2, wQ3, wR, boxE, partsOf, ↓reduceIte, n1w, n2w, n3w, n4w, n5w, n6w, reduceCtorEq, i1w, i2w, i3w, i4w, i5w, c1, c2, c3, c4, c5, c6, c7, w2, f28', q0]
       exact ⟨ql, rfl, hrq⟩
      ·cases g2
       ·simp +contextual -implicitDefEqProofs (maxSteps := 2000000) only [↓wP, wQ, wQ1, wQ2, wQ3, wR, boxE, partsOf, ↓reduceIte, n1w, n2w, n3w, n4w, n5w, n6w, reduceCtorEq, i1w, i2w, i3w, i4w, i5w, c1, c2, c3, c4, c5, c6, c7, w2, f28', q0]
        exact ⟨ql, rfl, hrq⟩
       ·have ht := hkg rfl rfl
        rw [ht] at c3
        simp +contextual -implicitDefEqProofs (maxSteps := 2000000) only [↓wP, wQ, wQ1, wQ2, wQ3, wR, boxE, partsOf, ↓reduceIte, n1w, n2w, n3w, n4w, n5w, n6w, reduceCtorEq, i1w, i2w, i3w, i4w, i5w, c1, c2, c3, c4, c5, c6, c7, w2, f28', q0]
        exact ⟨ql, rfl, hrq⟩
   ·have hz : (E != 0) = true := by simpa using hE0
    obtain ⟨b1, b2, b3⟩ := run_bad hr hcq (by rw [← hE]; exact hE0)
    rw [← hE, hqd, ← hsaw] at b1
    rw [← hE] at b2 b3
    rw [hqd] at b3
    by_cases h6 : E = 6
    ·have u1 : (E != 4) = true := by rw [h6]; rfl
     have u2 : (E == 6) = true := by rw [h6]; rfl
     have u3 : (((lst l).length : Int) != 12) = false := by rw [b2 h6]; rfl
     have u4 : (E == 4) = false := by rw [h6]; rfl
     cases d
     ·simp +contextual -implicitDefEqProofs (maxSteps := 2000000) only [↓wP, wQ, wQ1, wQ2, wQ3, wR, boxE, partsOf, ↓reduceIte, n1w, n2w, n3w, n4w, n5w, n6w, reduceCtorEq, i1w, i2w, i3w, i4w, i5w, c1, c2, c3, c4, c5, c6, c7, f11, ← hN, Nat.mul_one, ← hn3, N0, N1, x2, x3, x4, x5, ← hM2, M2s, hc3, hdc, f24b, ← hM3, P0, P1, ← hn4, hz, u1, u2, u3, u4]
      exact ⟨l, rfl, hr⟩
     ·cases sb
      ·have := b1 ⟨rfl, rfl⟩; omega
      ·simp +contextual -implicitDefEqProofs (maxSteps := 2000000) only [↓wP, wQ, wQ1, wQ2, wQ3, wR, boxE, partsOf, ↓reduceIte, n1w, n2w, n3w, n4w, n5w, n6w, reduceCtorEq, i1w, i2w, i3w, i4w, i5w, c1, c2, c3, c4, c5, c6, c7, f11, ← hN, Nat.mul_one, ← hn3, N0, N1, x2, x3, x4, x5, ← hM2, M2s, hc3, hdc, f24b, ← hM3, P0, P1, ← hn4, hz, u1, u2, u3, u4]
       exact ⟨l, rfl, hr⟩
    ·have u2 : (E == 6) = false := by simpa using h6
     by_cases h4 : E = 4
     ·have u1 : (E != 4) = false := by rw [h4]; rfl
      cases d
      ·exact absurd h4 (b3 rfl)
      ·cases sb
       ·simp +contextual -implicitDefEqProofs (maxSteps := 2000000) only [↓wP, wQ, wQ1, wQ2, wQ3, wR, boxE, partsOf, ↓reduceIte, n1w, n2w, n3w, n4w, n5w, n6w, reduceCtorEq, i1w, i2w, i3w, i4w, i5w, c1, c2, c3, c4, c5, c6, c7, f11, ← hN, Nat.mul_one, ← hn3, N0, N1, x2, x3, x4, x5, ← hM2, M2s, hc3, hdc, f24b, ← hM3, P0, P1, ← hn4, hz, u1, u2]
        exact ⟨l, rfl, hr⟩
       ·simp +contextual -implicitDefEqProofs (maxSteps := 2000000) only [↓wP, wQ, wQ1, wQ2, wQ3, wR, boxE, partsOf, ↓reduceIte, n1w, n2w, n3w, n4w, n5w, n6w, reduceCtorEq, i1w, i2w, i3w, i4w, i5w, c1, c2, c3, c4, c5, c6, c7, f11, ← hN, Nat.mul_one, ← hn3, N0, N1, x2, x3, x4, x5, ← hM2, M2s, hc3, hdc, f24b, ← hM3, P0, P1, ← hn4, hz, u1, u2]
        exact ⟨l, rfl, hr⟩
     ·have u1 : (E != 4) = true := by simpa using h4
      have u4 : (E == 4) = false := by simpa using h4
      cases d
      ·simp +contextual -implicitDefEqProofs (maxSteps := 2000000) only [↓wP, wQ, wQ1, wQ2, wQ3, wR, boxE, partsOf, ↓reduceIte, n1w, n2w, n3w, n4w, n5w, n6w, reduceCtorEq, i1w, i2w, i3w, i4w, i5w, c1, c2, c3, c4, c5, c6, c7, f11, ← hN, Nat.mul_one, ← hn3, N0, N1, x2, x3, x4, x5, ← hM2, M2s, hc3, hdc, f24b, ← hM3, P0, P1, ← hn4, hz, u1, u2, u4]
       exact ⟨l, rfl, hr⟩
      ·cases sb
       ·have := b1 ⟨rfl, rfl⟩; omega
       ·simp +contextual -implicitDefEqProofs (maxSteps := 2000000) only [↓wP, wQ, wQ1, wQ2, wQ3, wR, boxE, partsOf, ↓reduceIte, n1w, n2w, n3w, n4w, n5w, n6w, reduceCtorEq, i1w, i2w, i3w, i4w, i5w, c1, c2, c3, c4, c5, c6, c7, f11, ← hN, Nat.mul_one, ← hn3, N0, N1, x2, x3, x4, x5, ← hM2, M2s, hc3, hdc, f24b, ← hM3, P0, P1, ← hn4, hz, u1, u2, u4]
        exact ⟨l, rfl, hr⟩
 ·intro env σ n ⟨g1, _⟩ h1 h2
  simp +contextual -implicitDefEqProofs (maxSteps := 2000000) only [↓wP, wQ, wQ1, wQ2, wQ3, wR, boxE, partsOf, ↓reduceIte, n1w, n2w, n3w, n4w, n5w, n6w, reduceCtorEq, i1w, i2w, i3w, i4w, i5w]
 ·exact ⟨rfl, rfl, none, rfl, rfl⟩
end Go.Q.SU
end

section
/- The compact code of this seat's functions, printed by a program. -/
namespace Go.Q.SK
def zO (d : Nat) (x : AI) : AOp := ⟨some d, none, x⟩
def zN (x : AI) : AOp := ⟨none, none, x⟩
def zM (d s : Nat) : AOp := ⟨some d, none, .mov (.tmp s)⟩
def zL (d s : Nat) : AOp := ⟨some d, none, .load false 1 (.tmp s)⟩
def zG (d g : Nat) (b : Bool) (x : AI) : AOp := ⟨some d, some (g, b), x⟩
def zP (x : AOp) : DOp := ⟨x, true, false, false, 0, [], none⟩
def zQ (x : AOp) : DOp := ⟨x, false, false, false, 0, [], none⟩
def zI (n : Int) : Opd := .con (.int .i64 n)
def zA (x : List AOp) (y : AC) : AC := .seq (.reg x) y
def zT (n : Nat) : Opd := .tmp n
def zF : Opd := .con (.bool false)
def zB (d s : Nat) : DOp := zP (zM d s)
def zC (d : Nat) (n : Int) : AOp := zO d (.mov (zI n))
def zD (d s n : Nat) : AOp := zO d (.faddr (zT s) n)
def zE (d n s : Nat) : AOp := zO d (.load true n (zT s))
def zH (d s : Nat) : AOp := zO d (.len (zT s))
def zJ (d s : Nat) (n : Int) : AOp := zO d (.bin .add (zT s) (zI n))
def zK (d s : Nat) : AOp := zO d (.box (zT s))
def b8 : AC :=
 (zA [zO 0 (.mov zF)]
 (zA [zO 7 (.lit 1 [(.con (.int .i32 7))]),
 zO 8 (.build [(.int .u64 0), .nilS] [(0, 1, (.con (.int .u64 5))), (1, 1, (zT 7))]),
 zO 9 (.call 32 [(.con .nilS), (zI 0), (zT 8)]),
 zM 6 9,
 zO 10 (.ext (zT 6) 0),
 zO 11 (.ext (zT 6) 1),
 zM 1 10,
 zM 2 11]
 (zA [zM 13 1,
 zO 14 (.lit 1 [(.con (.int .i32 1))]),
 zO 15 (.build [(.int .u64 0), .nilS] [(0, 1, (.con (.int .u64 3))), (1, 1, (zT 14))]),
 zO 16 (.lit 1 [(.con (.int .i32 2))]),
 zO 17 (.build [(.int .u64 0), .nilS] [(0, 1, (.con (.int .u64 5))), (1, 1, (zT 16))]),
 zO 18 (.lit 2 [(zT 15), (zT 17)]),
 zO 19 (.call 15 [(zT 13), (zI 0), (zT 18)]),
 zM 12 19,
 zO 20 (.ext (zT 12) 0),
 zO 21 (.ext (zT 12) 1),
 zM 3 20,
 zM 4 21]
 (zA [zM 23 1,
 zO 24 (.build [(.int .i64 0), (.int .u64 0), (.bool false), .nilS] [(1, 1, (.con (.int .u64 5)))]),
 zO 25 (.call 33 [(zT 23), (zT 24), zF]),
 zM 22 25,
 zO 26 (.ext (zT 22) 0),
 zO 27 (.ext (zT 22) 1),
 zM 1 26,
 zM 5 27]
 (zA [zM 28 2,
 zO 29 (.bin .eql (zT 28) (zI 0)),
 zM 30 29,
 zG 31 30 true (.mov (zT 4)),
 zG 32 30 true (.bin .eql (zT 31) (zI 0)),
 zO 33 (.pick (zT 30) (zT 32) zF),
 zM 34 33,
 zG 35 34 true (.mov (zT 5)),
 zG 36 34 true (.bin .eql (zT 35) (zI 0)),
 zO 37 (.pick (zT 34) (zT 36) zF),
 zM 38 37,
 zG 39 38 true (.mov (zT 3)),
 zG 40 38 true (.len (zT 39)),
 zG 41 38 true (.bin .eql (zT 40) (zI 2)),
 zO 42 (.pick (zT 38) (zT 41) zF),
 zM 43 42,
 zG 44 43 true (.mov (zT 3)),
 zG 45 43 true (.iaddr 2 (zT 44) (zI 1)),
 zG 46 43 true (.faddr (zT 45) 1),
 zG 47 43 true (.load false 1 (zT 46)),
 zG 48 43 true (.iaddr 1 (zT 47) (zI 0)),
 zG 49 43 true (.load false 1 (zT 48)),
 zG 50 43 true (.bin .eql (zT 49) (.con (.int .i32 7))),
 zO 51 (.pick (zT 43) (zT 50) zF),
 zM 52 51,
 zG 53 52 true (.mov (zT 1)),
 zG 54 52 true (.len (zT 53)),
 zG 55 52 true (.bin .eql (zT 54) (zI 0)),
 zO 56 (.pick (zT 52) (zT 55) zF),
 zM 0 56]
 .ret)))))
def g8 : Fn := ⟨0, 57, [.tmp 0], b8⟩
def b15 : AC :=
 (zA [zO 6 (.mov (.con .nilS)),
 zC 7 0]
 (.seq (zA [zM 13 0,
 zO 14 (.call 25 [(zT 13)]),
 zM 8 14]
 (zA [zM 15 8,
 zO 16 (.bin .neq (zT 15) (zI 0))]
 (.cond (zT 16)
 (zA [zM 17 8,
 zO 6 (.mov (.con .nilS)),
 zM 7 17]
 .ret)
 .skip)))
 (.seq (zA [zM 18 1,
 zO 19 (.call 37 [(zT 18)]),
 zO 20 (.un .not (zT 19))]
 (.cond (zT 20)
 (zA [zO 6 (.mov (.con .nilS)),
 zC 7 2]
 .ret)
 .skip))
 (.seq (zA [zM 21 2,
 zH 22 21,
 zC 23 0]
 (.block 0 (.loop (zA [zO 24 (.bin .lss (zT 23) (zT 22))]
 (.seq (.cond (zT 24)
 .skip
 (.exit 0))
 (.seq (.block 1 (zA [zM 25 23,
 zO 26 (.iaddr 2 (zT 21) (zT 23)),
 zE 27 2 26,
 zO 10 (.alloc (.agg [(.int .u64 0), .nilS])),
 zM 9 25,
 zN (.store 2 (zT 10) (zT 27))]
 (.seq (.regd [⟨[], 0, [zD 28 10 1,
 zL 29 28,
 zO 30 (.call 38 [(zT 29)]),
 zO 31 (.bin .neq (zT 30) (zI 0)),
 zM 32 31,
 zG 33 32 false (.mov (zT 9)),
 zG 34 32 false (.bin .gtr (zT 33) (zI 0)),
 zG 35 32 false (.mov (zT 34))]⟩,
 ⟨[zP (zG 36 35 true (.mov (zT 2))),
 zP (zG 37 35 true (.mov (zT 9))),
 zP (zG 38 35 true (.bin .sub (zT 37) (zI 1))),
 zP (zG 39 35 true (.iaddr 2 (zT 36) (zT 38))),
 zP (zG 40 35 true (.faddr (zT 39) 0)),
 zQ (zG 41 35 true (.load false 1 (zT 40))),
 zP (zG 42 35 true (.faddr (zT 10) 0)),
 zQ (zG 43 35 true (.load false 1 (zT 42)))], 0, [zG 44 35 true (.bin .geq (zT 41) (zT 43)),
 zG 45 32 false (.pick (zT 35) (zT 44) zF),
 zO 46 (.pick (zT 32) (.con (.bool true)) (zT 45))]⟩])
 (.cond (zT 46)
 (zA [zO 6 (.mov (.con .nilS)),
 zC 7 170]
 .ret)
 .skip))))
 (.reg [zJ 47 23 1,
 zM 23 47])))))))
 (zA [zO 11 (.alloc .nilS)]
 (.seq (zA [zM 48 0,
 zM 49 1,
 zO 50 (.call 21 [(zT 48), (zT 49)]),
 zM 51 2,
 zO 52 (.call 39 [(zT 50), (zT 51)])]
 (.block 2 (.rangeF (zT 52) [53]
 (.reg [zO 12 (.alloc (.agg [(.int .u64 0), .nilS])),
 zN (.store 2 (zT 12) (zT 53))])
 (.block 3 (.regd [⟨[⟨zL 54 11, false, false, false, 0, [0], none⟩,
 zP (zD 55 12 0),
 zQ (zL 56 55),
 zP (zD 57 12 1),
 zQ (zL 58 57),
 zQ (zO 59 (.call 40 [(zT 58)])),
 zP (zO 60 (.build [(.int .u64 0), .nilS] [(0, 1, (zT 56)), (1, 1, (zT 59))])),
 ⟨zO 61 (.lit 2 [(zT 60)]), false, false, true, 0, [], none⟩], 1, [zO 62 (.append 2 32 (zT 54) (zT 61)),
 zN (.store 1 (zT 11) (zT 62))]⟩])))))
 (zA [zL 63 11,
 zO 64 (.call 41 [(zT 63), (.con (.fn 42 []))])]
 (zA [zL 65 11,
 zM 6 65,
 zC 7 0]
 .ret))))))))
def g15 : Fn := ⟨3, 66, [.tmp 6, .tmp 7], b15⟩
def b21 : AC :=
 (zA [zO 4 (.mov (.con .nilS))]
 (.seq (zA [zM 8 0,
 zO 9 (.call 25 [(zT 8)]),
 zO 10 (.bin .neq (zT 9) (zI 0))]
 (.cond (zT 10)
 (zA [zO 4 (.mov (.con .nilS))]
 .ret)
 .skip))
 (zA [zO 5 (.mov (.con .nilS))]
 (.seq (zA [zM 11 0,
 zH 12 11,
 zC 13 0]
 (.block 0 (.loop (zA [zO 14 (.bin .lss (zT 13) (zT 12))]
 (.seq (.cond (zT 14)
 .skip
 (.exit 0))
 (.seq (.block 1 (zA [zO 15 (.iaddr 4 (zT 11) (zT 13)),
 zE 16 4 15,
 zO 7 (.alloc (.agg [(.int .i64 0), (.int .u64 0), (.bool false), .nilS])),
 zN (.store 4 (zT 7) (zT 16))]
 (zA [zD 17 7 0,
 zL 18 17,
 zM 19 1,
 zO 20 (.bin .eql (zT 18) (zT 19))]
 (.cond (zT 20)
 (.reg [zM 21 5,
 zE 22 4 7,
 zO 23 (.lit 4 [(zT 22)]),
 zO 24 (.append 4 48 (zT 21) (zT 23)),
 zM 5 24])
 .skip))))
 (.reg [zJ 25 13 1,
 zM 13 25])))))))
 (zA [zM 26 5,
 zM 4 26]
 .ret)))))
def g21 : Fn := ⟨2, 27, [.tmp 4], b21⟩
def b25 : AC :=
 (zA [zC 2 0]
 (zA [zM 6 0,
 zH 7 6,
 zO 8 (.bin .leq (zT 7) (zI 12)),
 zM 3 8]
 (.seq (zA [zM 9 0,
 zH 10 9,
 zC 11 0]
 (.block 0 (.loop (zA [zO 12 (.bin .lss (zT 11) (zT 10))]
 (.seq (.cond (zT 12)
 .skip
 (.exit 0))
 (.seq (.block 1 (zA [zM 13 11,
 zO 14 (.iaddr 4 (zT 9) (zT 11)),
 zE 15 4 14,
 zO 5 (.alloc (.agg [(.int .i64 0), (.int .u64 0), (.bool false), .nilS])),
 zM 4 13,
 zN (.store 4 (zT 5) (zT 15))]
 (.regd [⟨[], 0, [zM 16 3,
 zM 17 16,
 zG 18 17 true (.load true 4 (zT 5)),
 zG 19 17 true (.call 46 [(zT 18)]),
 zO 20 (.pick (zT 17) (zT 19) zF),
 zM 21 20,
 zG 22 21 true (.mov (zT 4)),
 zG 23 21 true (.bin .eql (zT 22) (zI 0)),
 zG 24 21 true (.mov (zT 23))]⟩,
 ⟨[zP (zG 25 24 false (.mov (zT 0))),
 zP (zG 26 24 false (.mov (zT 4))),
 zP (zG 27 24 false (.bin .sub (zT 26) (zI 1))),
 zP (zG 28 24 false (.iaddr 4 (zT 25) (zT 27))),
 zQ (zG 29 24 false (.load true 4 (zT 28))),
 zQ (zG 30 24 false (.load true 4 (zT 5)))], 0, [zG 31 24 false (.call 47 [(zT 29), (zT 30)]),
 zG 32 24 false (.bin .lss (zT 31) (zI 0)),
 zG 33 21 true (.pick (zT 24) (.con (.bool true)) (zT 32)),
 zO 34 (.pick (zT 21) (zT 33) zF),
 zM 3 34]⟩])))
 (.reg [zJ 35 11 1,
 zM 11 35])))))))
 (.seq (zA [zM 36 3,
 zO 37 (.un .not (zT 36))]
 (.cond (zT 37)
 (zA [zC 2 260]
 .ret)
 .skip))
 (zA [zC 2 0]
 .ret)))))
def g25 : Fn := ⟨1, 38, [.tmp 2], b25⟩
def b32 : AC :=
 (zA [zK 5 2,
 zO 6 (.mov (.con .nilS)),
 zC 7 0]
 (.seq (.regd [⟨[zB 9 1,
 zP (zD 10 5 0),
 ⟨zL 11 10, false, false, false, 0, [0], none⟩,
 zP (zD 12 5 1),
 ⟨zL 13 12, false, false, false, 0, [0], none⟩,
 ⟨zO 14 (.call 40 [(zT 13)]), false, false, false, 0, [0], none⟩,
 zP (zO 15 (.build [(.int .i64 0), (.int .u64 0), (.bool false), .nilS] [(0, 1, (zT 9)), (1, 1, (zT 11)), (3, 1, (zT 14))])),
 ⟨zO 8 (.alloc (.agg [(.int .i64 0), (.int .u64 0), (.bool false), .nilS])), false, false, true, 0, [], none⟩], 1, [zN (.store 4 (zT 8) (zT 15))]⟩])
 (zA [zM 16 0,
 zE 17 4 8,
 zO 18 (.mkfn 53 [(zT 5), (zT 8)]),
 zO 19 (.call 52 [(zT 16), (zT 17), (zT 18)]),
 zO 20 (.ext (zT 19) 0),
 zO 21 (.ext (zT 19) 1),
 zM 6 20,
 zM 7 21]
 .ret)))
def g32 : Fn := ⟨3, 22, [.tmp 6, .tmp 7], b32⟩
def b33 : AC :=
 (zA [zK 4 1,
 zK 5 2,
 zO 6 (.mov (.con .nilS)),
 zC 7 0]
 (zA [zM 8 0,
 zE 9 4 4,
 zO 10 (.mkfn 55 [(zT 5), (zT 4)]),
 zO 11 (.call 52 [(zT 8), (zT 9), (zT 10)]),
 zO 12 (.ext (zT 11) 0),
 zO 13 (.ext (zT 11) 1),
 zM 6 12,
 zM 7 13]
 .ret))
def g33 : Fn := ⟨3, 14, [.tmp 6, .tmp 7], b33⟩
def b37 : AC :=
 (zA [zO 2 (.mov zF)]
 (zA [zM 3 0,
 zO 4 (.bin .geq (zT 3) (zI 0)),
 zM 5 4,
 zG 6 5 true (.mov (zT 0)),
 zG 7 5 true (.bin .lss (zT 6) (zI 3)),
 zO 8 (.pick (zT 5) (zT 7) zF),
 zM 2 8]
 .ret))
def g37 : Fn := ⟨1, 9, [.tmp 2], b37⟩
def b38 : AC :=
 (zA [zC 2 0]
 (zA [zO 3 (.mov (.con (.fn 59 [])))]
 (.seq (zA [zM 4 0,
 zH 5 4,
 zO 6 (.bin .lss (zT 5) (zI 1)),
 zM 7 6,
 zG 8 7 false (.mov (zT 0)),
 zG 9 7 false (.len (zT 8)),
 zG 10 7 false (.bin .gtr (zT 9) (zI 4)),
 zO 11 (.pick (zT 7) (.con (.bool true)) (zT 10)),
 zM 12 11,
 zG 13 12 false (.mov (zT 0)),
 zG 14 12 false (.mov (zT 3)),
 zG 15 12 false (.call 60 [(zT 13), (zT 14)]),
 zO 16 (.pick (zT 12) (.con (.bool true)) (zT 15))]
 (.cond (zT 16)
 (zA [zC 2 150]
 .ret)
 .skip))
 (zA [zC 2 0]
 .ret))))
def g38 : Fn := ⟨1, 17, [.tmp 2], b38⟩
def b39 : AC :=
 (zA [zK 2 0,
 zK 3 1,
 zO 4 (.mov (.con .nilF))]
 (zA [zO 8 (.mkmap),
 zO 5 (.alloc .nilM),
 zN (.store 1 (zT 5) (zT 8))]
 (.seq (zA [zL 9 2,
 zH 10 9,
 zC 11 0]
 (.block 0 (.loop (zA [zO 12 (.bin .lss (zT 11) (zT 10))]
 (.seq (.cond (zT 12)
 .skip
 (.exit 0))
 (.seq (.block 1 (zA [zO 13 (.iaddr 4 (zT 9) (zT 11)),
 zE 14 4 13,
 zO 7 (.alloc (.agg [(.int .i64 0), (.int .u64 0), (.bool false), .nilS])),
 zN (.store 4 (zT 7) (zT 14))]
 (.reg [zL 15 5,
 zD 16 7 1,
 zL 17 16,
 zN (.mupd (.one .int) (zT 15) (zT 17) (.con (.bool true)))])))
 (.reg [zJ 18 11 1,
 zM 11 18])))))))
 (zA [zO 19 (.mkfn 61 [(zT 3), (zT 5), (zT 2)]),
 zM 4 19]
 .ret))))
def g39 : Fn := ⟨2, 20, [.tmp 4], b39⟩
def b40 : AC :=
 (zA [zO 2 (.mov (.con .nilS))]
 (.seq (zA [zM 3 0,
 zO 4 (.eqN false (zT 3))]
 (.cond (zT 4)
 (zA [zO 2 (.mov (.con .nilS))]
 .ret)
 .skip))
 (zA [zO 5 (.lit 1 []),
 zM 6 0,
 zO 7 (.append 1 4 (zT 5) (zT 6)),
 zM 2 7]
 .ret)))
def g40 : Fn := ⟨1, 8, [.tmp 2], b40⟩
def b41 : AC :=
 (zA [zM 5 0,
 zH 6 5,
 zM 4 6]
 (.reg [zM 7 0,
 zM 8 4,
 zM 9 4,
 zO 10 (.conv .u64 (zT 9)),
 zO 11 (.call 63 [(zT 10)]),
 zM 12 1,
 zO 13 (.call 62 [(zT 7), (zI 0), (zT 8), (zT 11), (zT 12)])]))
def g41 : Fn := ⟨2, 14, [], b41⟩
def b42 : AC :=
 (zA [zK 2 0,
 zK 3 1,
 zC 4 0]
 (zA [zD 5 2 0,
 zL 6 5,
 zD 7 3 0,
 zL 8 7,
 zO 9 (.call 43 [(zT 6), (zT 8)]),
 zM 4 9]
 .ret))
def g42 : Fn := ⟨2, 10, [.tmp 4], b42⟩
def b43 : AC :=
 (zA [zC 4 0]
 (zA [zM 7 0,
 zO 8 (.call 64 [(zT 7)]),
 zM 5 8]
 (zA [zM 9 1,
 zO 10 (.call 64 [(zT 9)]),
 zM 6 10]
 (.seq (zA [zM 11 5]
 (.cond (zT 11)
 (.seq (zA [zM 12 6]
 (.cond (zT 12)
 (zA [zC 4 0]
 .ret)
 .skip))
 (zA [zC 4 (-1)]
 .ret))
 .skip))
 (.seq (zA [zM 13 6]
 (.cond (zT 13)
 (zA [zC 4 1]
 .ret)
 .skip))
 (.seq (zA [zM 14 0,
 zM 15 1,
 zO 16 (.bin .lss (zT 14) (zT 15))]
 (.cond (zT 16)
 (zA [zC 4 (-1)]
 .ret)
 .skip))
 (.seq (zA [zM 17 0,
 zM 18 1,
 zO 19 (.bin .gtr (zT 17) (zT 18))]
 (.cond (zT 19)
 (zA [zC 4 1]
 .ret)
 .skip))
 (zA [zC 4 0]
 .ret))))))))
def g43 : Fn := ⟨2, 20, [.tmp 4], b43⟩
def b46 : AC :=
 (zA [zK 1 0,
 zO 2 (.mov zF)]
 (zA [zD 3 1 0,
 zL 4 3,
 zO 5 (.call 37 [(zT 4)]),
 zM 6 5,
 zG 7 6 true (.faddr (zT 1) 2),
 zG 8 6 true (.load false 1 (zT 7)),
 zG 9 6 true (.mov (zT 8)),
 zG 10 9 true (.faddr (zT 1) 3),
 zG 11 9 true (.load false 1 (zT 10)),
 zG 12 9 true (.len (zT 11)),
 zG 13 9 true (.bin .eql (zT 12) (zI 0)),
 zG 14 6 true (.pick (zT 9) (zT 13) zF),
 zG 15 6 true (.mov (zT 14)),
 zG 16 15 false (.faddr (zT 1) 2),
 zG 17 15 false (.load false 1 (zT 16)),
 zG 18 15 false (.un .not (zT 17)),
 zG 19 15 false (.mov (zT 18)),
 zG 20 19 true (.faddr (zT 1) 3),
 zG 21 19 true (.load false 1 (zT 20)),
 zG 22 19 true (.call 38 [(zT 21)]),
 zG 23 19 true (.bin .eql (zT 22) (zI 0)),
 zG 24 15 false (.pick (zT 19) (zT 23) zF),
 zG 25 6 true (.pick (zT 15) (.con (.bool true)) (zT 24)),
 zO 26 (.pick (zT 6) (zT 25) zF),
 zM 2 26]
 .ret))
def g46 : Fn := ⟨1, 27, [.tmp 2], b46⟩
def b47 : AC :=
 (zA [zK 2 0,
 zK 3 1,
 zC 4 0]
 (.seq (.regd [⟨[zP (zD 5 2 0),
 zQ (zL 6 5),
 zP (zD 7 3 0),
 zQ (zL 8 7),
 zQ (zO 9 (.call 66 [(zT 6), (zT 8)])),
 zP (zD 10 2 1),
 zQ (zL 11 10),
 zP (zD 12 3 1),
 zQ (zL 13 12)], 0, [zO 14 (.call 43 [(zT 11), (zT 13)]),
 zO 15 (.lit 1 [(zT 9), (zT 14)]),
 zO 16 (.call 65 [(zT 15)]),
 zM 4 16]⟩])
 .ret))
def g47 : Fn := ⟨2, 17, [.tmp 4], b47⟩
def b49 : AC :=
 (zA [zK 4 1,
 zC 6 0,
 zO 7 (.mov zF)]
 (zA [zM 12 0,
 zH 13 12,
 zM 8 13]
 (zA [zM 14 8,
 zC 9 0,
 zM 10 14]
 (.seq (.block 0 (.loop (.seq (zA [zM 15 9,
 zM 16 10,
 zO 17 (.bin .lss (zT 15) (zT 16))]
 (.cond (zT 17)
 .skip
 (.exit 0)))
 (.block 1 (zA [zM 18 9,
 zM 19 10,
 zO 20 (.bin .add (zT 18) (zT 19)),
 zO 21 (.conv .u64 (zT 20)),
 zO 22 (.bin .shr (zT 21) (.con (.int .u64 1))),
 zO 23 (.conv .i64 (zT 22)),
 zM 11 23]
 (.seq (.regd [⟨[zB 24 2,
 zB 25 0,
 zB 26 11,
 zP (zO 27 (.iaddr 4 (zT 25) (zT 26))),
 zQ (zE 28 4 27),
 zQ (zE 29 4 4)], 0, [zO 30 (.callv (zT 24) [(zT 28), (zT 29)]),
 zO 31 (.bin .lss (zT 30) (zI 0))]⟩])
 (.cond (zT 31)
 (.reg [zM 32 11,
 zJ 33 32 1,
 zM 9 33])
 (.reg [zM 34 11,
 zM 10 34]))))))))
 (.seq (.regd [⟨[zB 35 9,
 zB 36 9,
 zB 37 8,
 zP (zO 38 (.bin .lss (zT 36) (zT 37))),
 zB 39 38,
 zP (zG 40 39 true (.mov (zT 2))),
 zP (zG 41 39 true (.mov (zT 0))),
 zP (zG 42 39 true (.mov (zT 9))),
 zP (zG 43 39 true (.iaddr 4 (zT 41) (zT 42))),
 zQ (zG 44 39 true (.load true 4 (zT 43))),
 zQ (zG 45 39 true (.load true 4 (zT 4))),
 zQ (zG 46 39 true (.callv (zT 40) [(zT 44), (zT 45)])),
 zP (zG 47 39 true (.bin .eql (zT 46) (zI 0))),
 zP (zO 48 (.pick (zT 39) (zT 47) zF)),
 zB 6 35], 0, [zM 7 48]⟩])
 .ret)))))
def g49 : Fn := ⟨3, 49, [.tmp 6, .tmp 7], b49⟩
def b52 : AC :=
 (zA [zK 4 1,
 zO 6 (.mov (.con .nilS)),
 zC 7 0]
 (.seq (zA [zM 12 0,
 zO 13 (.call 25 [(zT 12)]),
 zM 8 13]
 (zA [zM 14 8,
 zO 15 (.bin .neq (zT 14) (zI 0))]
 (.cond (zT 15)
 (zA [zM 16 8,
 zO 6 (.mov (.con .nilS)),
 zM 7 16]
 .ret)
 .skip)))
 (.seq (zA [zD 17 4 0,
 zL 18 17,
 zO 19 (.call 37 [(zT 18)]),
 zO 20 (.un .not (zT 19))]
 (.cond (zT 20)
 (zA [zO 6 (.mov (.con .nilS)),
 zC 7 2]
 .ret)
 .skip))
 (zA [zM 21 0,
 zO 22 (.call 68 [(zT 21)]),
 zO 23 (.build [.nilS, (.int .i64 0), (.bool false)] [(0, 1, (zT 22))]),
 zK 24 23,
 zM 9 24]
 (.seq (zA [zM 25 9,
 zO 26 (.nilck (zT 25)),
 zD 27 26 0,
 zL 28 27,
 zH 29 28,
 zC 30 0]
 (.block 0 (.loop (zA [zO 31 (.bin .lss (zT 30) (zT 29))]
 (.seq (.cond (zT 31)
 .skip
 (.exit 0))
 (.seq (.block 1 (zA [zM 32 30,
 zM 10 32]
 (.regd [⟨[zB 33 9,
 zP (zO 34 (.nilck (zT 33))),
 zP (zD 35 34 0),
 zQ (zL 36 35),
 zB 37 10,
 zB 38 9,
 zP (zO 39 (.nilck (zT 38))),
 zP (zD 40 39 0),
 zQ (zL 41 40),
 zB 42 10,
 zP (zO 43 (.iaddr 4 (zT 41) (zT 42))),
 zP (zD 44 43 3),
 zQ (zL 45 44),
 zQ (zO 46 (.call 40 [(zT 45)]))], 0, [zO 47 (.iaddr 4 (zT 36) (zT 37)),
 zD 48 47 3,
 zN (.store 1 (zT 48) (zT 46))]⟩])))
 (.reg [zJ 49 30 1,
 zM 30 49])))))))
 (.seq (.regd [⟨[zB 51 9,
 zB 52 9,
 zB 53 9,
 zP (zO 54 (.nilck (zT 53))),
 zP (zD 55 54 0),
 zQ (zL 56 55),
 zQ (zE 57 4 4),
 zQ (zO 58 (.call 49 [(zT 56), (zT 57), (.con (.fn 47 []))])),
 zB 50 58,
 zP (zO 59 (.ext (zT 50) 0)),
 zP (zO 60 (.ext (zT 50) 1)),
 zP (zO 61 (.nilck (zT 51))),
 zP (zD 62 61 1),
 ⟨zN (.store 1 (zT 62) (zT 59)), false, true, false, 0, [], none⟩], 0, [zO 63 (.nilck (zT 52)),
 zD 64 63 2,
 zN (.store 1 (zT 64) (zT 60))]⟩])
 (.seq (zA [zM 65 2,
 zM 66 9,
 zO 67 (.callv (zT 65) [(zT 66)]),
 zM 11 67]
 (zA [zM 68 11,
 zO 69 (.bin .neq (zT 68) (zI 0))]
 (.cond (zT 69)
 (zA [zM 70 11,
 zO 6 (.mov (.con .nilS)),
 zM 7 70]
 .ret)
 .skip)))
 (zA [zM 71 9,
 zO 72 (.nilck (zT 71)),
 zD 73 72 0,
 zL 74 73,
 zM 6 74,
 zC 7 0]
 .ret))))))))
def g52 : Fn := ⟨3, 75, [.tmp 6, .tmp 7], b52⟩
def b53 : AC :=
 (zA [zC 4 0]
 (.seq (zA [zD 6 1 1,
 zL 7 6,
 zO 8 (.call 38 [(zT 7)]),
 zM 5 8]
 (zA [zM 9 5,
 zO 10 (.bin .neq (zT 9) (zI 0))]
 (.cond (zT 10)
 (zA [zM 11 5,
 zM 4 11]
 .ret)
 .skip)))
 (zA [zM 12 0,
 zE 13 4 2,
 zO 14 (.call 54 [(zT 12), (zT 13)]),
 zM 4 14]
 .ret)))
def g53 : Fn := ⟨3, 15, [.tmp 4], b53⟩
def b54 : AC :=
 (zA [zK 3 1,
 zC 4 0]
 (.seq (.block 0 (zA [zM 20 0,
 zO 21 (.nilck (zT 20)),
 zD 22 21 2,
 zL 23 22,
 zM 19 23]
 (.cond (zT 19)
 (.regd [⟨[zB 24 0,
 zP (zO 25 (.nilck (zT 24))),
 zP (zD 26 25 0),
 zQ (zL 27 26),
 zB 28 0,
 zP (zO 29 (.nilck (zT 28))),
 zP (zD 30 29 1),
 zQ (zL 31 30),
 zQ (zE 32 4 3)], 0, [zO 33 (.iaddr 4 (zT 27) (zT 31)),
 zN (.store 4 (zT 33) (zT 32))]⟩])
 (zA [zM 35 0,
 zO 36 (.nilck (zT 35)),
 zD 37 36 0,
 zL 38 37,
 zH 39 38,
 zO 40 (.bin .eql (zT 39) (zI 12)),
 zM 34 40]
 (.cond (zT 34)
 (zA [zC 4 6]
 .ret)
 (.regd [⟨[zB 5 0,
 zB 6 0,
 zP (zO 7 (.nilck (zT 6))),
 zP (zD 8 7 0),
 ⟨zL 9 8, false, false, false, 0, [0], none⟩,
 zB 10 0,
 zP (zO 11 (.nilck (zT 10))),
 zP (zD 12 11 1),
 ⟨zL 13 12, false, false, false, 0, [0], none⟩,
 zQ (zE 14 4 3),
 ⟨zO 15 (.lit 4 [(zT 14)]), false, false, true, 0, [], none⟩,
 ⟨zO 16 (.prim 69 [(zT 9), (zT 13), (zT 15)]), false, true, true, 1, [], none⟩], 2, [zO 17 (.nilck (zT 5)),
 zD 18 17 0,
 zN (.store 1 (zT 18) (zT 16))]⟩]))))))
 (zA [zC 4 0]
 .ret)))
def g54 : Fn := ⟨2, 41, [.tmp 4], b54⟩
def b55 : AC :=
 (zA [zC 4 0]
 (zA [zL 6 1,
 zM 5 6]
 (.seq (zA [zM 7 0,
 zO 8 (.nilck (zT 7)),
 zD 9 8 2,
 zL 10 9]
 (.cond (zT 10)
 (.regd [⟨[zB 11 0,
 zP (zO 12 (.nilck (zT 11))),
 zP (zD 13 12 0),
 zQ (zL 14 13),
 zB 15 0,
 zP (zO 16 (.nilck (zT 15))),
 zP (zD 17 16 1),
 zQ (zL 18 17)], 0, [zO 19 (.iaddr 4 (zT 14) (zT 18)),
 zD 20 19 2,
 zL 21 20,
 zO 22 (.un .not (zT 21)),
 zM 5 22]⟩])
 .skip))
 (.seq (.block 0 (zA [zM 24 5,
 zO 25 (.un .not (zT 24)),
 zM 23 25]
 (.cond (zT 23)
 (zA [zC 4 4]
 .ret)
 (zA [zL 27 1,
 zO 28 (.un .not (zT 27)),
 zM 26 28]
 (.cond (zT 26)
 (.seq (.regd [⟨[zB 29 0,
 zB 30 0,
 zP (zO 31 (.nilck (zT 30))),
 zP (zD 32 31 0),
 zQ (zL 33 32),
 zB 34 0,
 zP (zO 35 (.nilck (zT 34))),
 zP (zD 36 35 1),
 zQ (zL 37 36),
 zB 38 0,
 zP (zO 39 (.nilck (zT 38))),
 zP (zD 40 39 1),
 zQ (zL 41 40),
 zP (zJ 42 41 1),
 ⟨zO 43 (.prim 56 [(zT 33), (zT 37), (zT 42)]), false, true, true, 0, [], none⟩], 1, [zO 44 (.nilck (zT 29)),
 zD 45 44 0,
 zN (.store 1 (zT 45) (zT 43))]⟩])
 (zA [zC 4 0]
 .ret))
 .skip)))))
 (zA [zM 46 0,
 zD 47 2 0,
 zL 48 47,
 zD 49 2 1,
 zL 50 49,
 zO 51 (.build [(.int .i64 0), (.int .u64 0), (.bool false), .nilS] [(0, 1, (zT 48)), (1, 1, (zT 50)), (2, 1, (.con (.bool true)))]),
 zO 52 (.call 54 [(zT 46), (zT 51)]),
 zM 4 52]
 .ret)))))
def g55 : Fn := ⟨3, 53, [.tmp 4], b55⟩
def b59 : AC :=
 (zA [zO 2 (.mov zF)]
 (zA [zM 3 0,
 zO 4 (.bin .lss (zT 3) (.con (.int .i32 (-1073741823)))),
 zM 5 4,
 zG 6 5 false (.mov (zT 0)),
 zG 7 5 false (.bin .gtr (zT 6) (.con (.int .i32 1073741823))),
 zO 8 (.pick (zT 5) (.con (.bool true)) (zT 7)),
 zM 2 8]
 .ret))
def g59 : Fn := ⟨1, 9, [.tmp 2], b59⟩
def b60 : AC :=
 (zA [zO 4 (.mov zF)]
 (zA [zM 5 0,
 zM 6 1,
 zO 7 (.call 70 [(zT 5), (zT 6)]),
 zO 8 (.bin .geq (zT 7) (zI 0)),
 zM 4 8]
 .ret))
def g60 : Fn := ⟨2, 9, [.tmp 4], b60⟩
def b61 : AC :=
 (.seq (zA [zL 9 1,
 zH 10 9,
 zC 11 0]
 (.block 0 (.loop (zA [zO 12 (.bin .lss (zT 11) (zT 10))]
 (.seq (.cond (zT 12)
 .skip
 (.exit 0))
 (.seq (.block 1 (zA [zO 13 (.iaddr 2 (zT 9) (zT 11)),
 zE 14 2 13,
 zO 6 (.alloc (.agg [(.int .u64 0), .nilS])),
 zN (.store 2 (zT 6) (zT 14))]
 (zA [zL 15 2,
 zD 16 6 0,
 zL 17 16,
 zO 18 (.mget false (.one .int) (.bool false) (zT 15) (zT 17)),
 zO 19 (.un .not (zT 18)),
 zM 20 19,
 zG 21 20 true (.mov (zT 0)),
 zG 22 20 true (.load true 2 (zT 6)),
 zG 23 20 true (.callv (zT 21) [(zT 22)]),
 zG 24 20 true (.un .not (zT 23)),
 zO 25 (.pick (zT 20) (zT 24) zF)]
 (.cond (zT 25)
 .ret
 .skip))))
 (.reg [zJ 26 11 1,
 zM 11 26])))))))
 (zA [zL 27 3,
 zH 28 27,
 zC 29 0]
 (.block 2 (.loop (zA [zO 30 (.bin .lss (zT 29) (zT 28))]
 (.seq (.cond (zT 30)
 .skip
 (.exit 2))
 (.seq (.block 3 (zA [zO 31 (.iaddr 4 (zT 27) (zT 29)),
 zE 32 4 31,
 zO 8 (.alloc (.agg [(.int .i64 0), (.int .u64 0), (.bool false), .nilS])),
 zN (.store 4 (zT 8) (zT 32))]
 (zA [zD 33 8 2,
 zL 34 33,
 zO 35 (.un .not (zT 34)),
 zM 36 35,
 zG 37 36 true (.mov (zT 0)),
 zG 38 36 true (.faddr (zT 8) 1),
 zG 39 36 true (.load false 1 (zT 38)),
 zG 40 36 true (.faddr (zT 8) 3),
 zG 41 36 true (.load false 1 (zT 40)),
 zG 42 36 true (.build [(.int .u64 0), .nilS] [(0, 1, (zT 39)), (1, 1, (zT 41))]),
 zG 43 36 true (.callv (zT 37) [(zT 42)]),
 zG 44 36 true (.un .not (zT 43)),
 zO 45 (.pick (zT 36) (zT 44) zF)]
 (.cond (zT 45)
 .ret
 .skip))))
 (.reg [zJ 46 29 1,
 zM 29 46]))))))))
def g61 : Fn := ⟨4, 47, [], b61⟩
def b62 : AC :=
 (zA [zO 10 (.mov (.con (.bool true)))]
 (zA [zO 11 (.mov (.con (.bool true)))]
 (.block 0 (.loop (.block 1 (zA [zM 21 2,
 zM 22 1,
 zO 23 (.bin .sub (zT 21) (zT 22)),
 zM 12 23]
 (.seq (zA [zM 24 12,
 zO 25 (.bin .leq (zT 24) (zI 12))]
 (.cond (zT 25)
 (zA [zM 26 0,
 zM 27 1,
 zM 28 2,
 zM 29 4,
 zO 30 (.call 71 [(zT 26), (zT 27), (zT 28), (zT 29)])]
 .ret)
 .skip))
 (.seq (zA [zM 31 3,
 zO 32 (.bin .eql (zT 31) (zI 0))]
 (.cond (zT 32)
 (zA [zM 33 0,
 zM 34 1,
 zM 35 2,
 zM 36 4,
 zO 37 (.call 72 [(zT 33), (zT 34), (zT 35), (zT 36)])]
 .ret)
 .skip))
 (.seq (zA [zM 38 10,
 zO 39 (.un .not (zT 38))]
 (.cond (zT 39)
 (zA [zM 40 0,
 zM 41 1,
 zM 42 2,
 zM 43 4,
 zO 44 (.call 73 [(zT 40), (zT 41), (zT 42), (zT 43)])]
 (.reg [zM 45 3,
 zO 46 (.bin .sub (zT 45) (zI 1)),
 zM 3 46]))
 .skip))
 (zA [zM 48 0,
 zM 49 1,
 zM 50 2,
 zM 51 4,
 zO 52 (.call 74 [(zT 48), (zT 49), (zT 50), (zT 51)]),
 zM 47 52,
 zO 53 (.ext (zT 47) 0),
 zO 54 (.ext (zT 47) 1),
 zM 13 53,
 zM 14 54]
 (.seq (zA [zM 55 14,
 zO 56 (.bin .eql (zT 55) (zI 2))]
 (.cond (zT 56)
 (zA [zM 57 0,
 zM 58 1,
 zM 59 2,
 zM 60 4,
 zO 61 (.call 75 [(zT 57), (zT 58), (zT 59), (zT 60)])]
 (zA [zM 62 2,
 zO 63 (.bin .sub (zT 62) (zI 1)),
 zM 64 13,
 zM 65 1,
 zO 66 (.bin .sub (zT 64) (zT 65)),
 zO 67 (.bin .sub (zT 63) (zT 66)),
 zM 13 67]
 (.reg [zC 14 1])))
 .skip))
 (.seq (zA [zM 68 10,
 zM 69 68,
 zG 70 69 true (.mov (zT 11)),
 zO 71 (.pick (zT 69) (zT 70) zF),
 zM 72 71,
 zG 73 72 true (.mov (zT 14)),
 zG 74 72 true (.bin .eql (zT 73) (zI 1)),
 zO 75 (.pick (zT 72) (zT 74) zF)]
 (.cond (zT 75)
 (zA [zM 76 0,
 zM 77 1,
 zM 78 2,
 zM 79 4,
 zO 80 (.call 76 [(zT 76), (zT 77), (zT 78), (zT 79)])]
 (.cond (zT 80)
 .ret
 .skip))
 .skip))
 (.seq (.seq (.regd [⟨[], 0, [zM 81 1,
 zO 82 (.bin .gtr (zT 81) (zI 0)),
 zM 83 82]⟩,
 ⟨[zP (zG 84 83 true (.mov (zT 4))),
 zP (zG 85 83 true (.mov (zT 0))),
 zP (zG 86 83 true (.mov (zT 1))),
 zP (zG 87 83 true (.bin .sub (zT 86) (zI 1))),
 zP (zG 88 83 true (.iaddr 2 (zT 85) (zT 87))),
 zQ (zG 89 83 true (.load true 2 (zT 88))),
 zP (zG 90 83 true (.mov (zT 0))),
 zP (zG 91 83 true (.mov (zT 13))),
 zP (zG 92 83 true (.iaddr 2 (zT 90) (zT 91))),
 zQ (zG 93 83 true (.load true 2 (zT 92)))], 0, [zG 94 83 true (.callv (zT 84) [(zT 89), (zT 93)]),
 zG 95 83 true (.bin .lss (zT 94) (zI 0)),
 zG 96 83 true (.un .not (zT 95)),
 zO 97 (.pick (zT 83) (zT 96) zF)]⟩])
 (.cond (zT 97)
 (zA [zM 98 0,
 zM 99 1,
 zM 100 2,
 zM 101 13,
 zM 102 4,
 zO 103 (.call 77 [(zT 98), (zT 99), (zT 100), (zT 101), (zT 102)]),
 zM 15 103]
 (zA [zM 104 15,
 zM 1 104]
 (.exit 1)))
 .skip))
 (zA [zM 106 0,
 zM 107 1,
 zM 108 2,
 zM 109 13,
 zM 110 4,
 zO 111 (.call 78 [(zT 106), (zT 107), (zT 108), (zT 109), (zT 110)]),
 zM 105 111,
 zO 112 (.ext (zT 105) 0),
 zO 113 (.ext (zT 105) 1),
 zM 16 112,
 zM 17 113]
 (zA [zM 114 17,
 zM 11 114]
 (zA [zM 115 16,
 zM 116 1,
 zO 117 (.bin .sub (zT 115) (zT 116)),
 zM 118 2,
 zM 119 16,
 zO 120 (.bin .sub (zT 118) (zT 119)),
 zM 18 117,
 zM 19 120]
 (zA [zM 121 12,
 zO 122 (.bin .quo (zT 121) (zI 8)),
 zM 20 122]
 (zA [zM 123 18,
 zM 124 19,
 zO 125 (.bin .lss (zT 123) (zT 124))]
 (.cond (zT 125)
 (zA [zM 126 18,
 zM 127 20,
 zO 128 (.bin .geq (zT 126) (zT 127)),
 zM 10 128]
 (zA [zM 129 0,
 zM 130 1,
 zM 131 16,
 zM 132 3,
 zM 133 4,
 zO 134 (.call 62 [(zT 129), (zT 130), (zT 131), (zT 132), (zT 133)])]
 (.reg [zM 135 16,
 zJ 136 135 1,
 zM 1 136])))
 (zA [zM 137 19,
 zM 138 20,
 zO 139 (.bin .geq (zT 137) (zT 138)),
 zM 10 139]
 (zA [zM 140 0,
 zM 141 16,
 zJ 142 141 1,
 zM 143 2,
 zM 144 3,
 zM 145 4,
 zO 146 (.call 62 [(zT 140), (zT 142), (zT 143), (zT 144), (zT 145)])]
 (.reg [zM 147 16,
 zM 2 147]))))))))))))))))))))))
def g62 : Fn := ⟨5, 148, [], b62⟩
def b63 : AC :=
 (zA [zC 2 0]
 (.seq (.cond zF
 (zA [zM 3 0,
 zO 4 (.conv .u32 (zT 3)),
 zO 5 (.call 79 [(zT 4)]),
 zM 2 5]
 .ret)
 .skip)
 (zA [zM 6 0,
 zO 7 (.call 80 [(zT 6)]),
 zM 2 7]
 .ret)))
def g63 : Fn := ⟨1, 8, [.tmp 2], b63⟩
def b64 : AC :=
 (zA [zO 2 (.mov zF)]
 (zA [zM 3 0,
 zM 4 0,
 zO 5 (.bin .neq (zT 3) (zT 4)),
 zM 2 5]
 .ret))
def g64 : Fn := ⟨1, 6, [.tmp 2], b64⟩
def b65 : AC :=
 (zA [zC 2 0]
 (zA [zC 3 0]
 (.seq (zA [zM 6 0,
 zH 7 6,
 zC 8 0]
 (.block 0 (.loop (zA [zO 9 (.bin .lss (zT 8) (zT 7))]
 (.seq (.cond (zT 9)
 .skip
 (.exit 0))
 (.seq (.block 1 (zA [zO 10 (.iaddr 1 (zT 6) (zT 8)),
 zL 11 10,
 zM 5 11]
 (zA [zM 12 5,
 zM 13 3,
 zO 14 (.bin .neq (zT 12) (zT 13))]
 (.cond (zT 14)
 (zA [zM 15 5,
 zM 2 15]
 .ret)
 .skip))))
 (.reg [zJ 16 8 1,
 zM 8 16])))))))
 (zA [zM 17 3,
 zM 2 17]
 .ret))))
def g65 : Fn := ⟨1, 18, [.tmp 2], b65⟩
def b66 : AC :=
 (zA [zC 4 0]
 (zA [zM 7 0,
 zO 8 (.call 81 [(zT 7)]),
 zM 5 8]
 (zA [zM 9 1,
 zO 10 (.call 81 [(zT 9)]),
 zM 6 10]
 (.seq (zA [zM 11 5]
 (.cond (zT 11)
 (.seq (zA [zM 12 6]
 (.cond (zT 12)
 (zA [zC 4 0]
 .ret)
 .skip))
 (zA [zC 4 (-1)]
 .ret))
 .skip))
 (.seq (zA [zM 13 6]
 (.cond (zT 13)
 (zA [zC 4 1]
 .ret)
 .skip))
 (.seq (zA [zM 14 0,
 zM 15 1,
 zO 16 (.bin .lss (zT 14) (zT 15))]
 (.cond (zT 16)
 (zA [zC 4 (-1)]
 .ret)
 .skip))
 (.seq (zA [zM 17 0,
 zM 18 1,
 zO 19 (.bin .gtr (zT 17) (zT 18))]
 (.cond (zT 19)
 (zA [zC 4 1]
 .ret)
 .skip))
 (zA [zC 4 0]
 .ret))))))))
def g66 : Fn := ⟨2, 20, [.tmp 4], b66⟩
def b68 : AC :=
 (zA [zO 2 (.mov (.con .nilS))]
 (.seq (zA [zM 3 0,
 zO 4 (.eqN false (zT 3))]
 (.cond (zT 4)
 (zA [zO 2 (.mov (.con .nilS))]
 .ret)
 .skip))
 (zA [zO 5 (.lit 4 []),
 zM 6 0,
 zO 7 (.append 4 48 (zT 5) (zT 6)),
 zM 2 7]
 .ret)))
def g68 : Fn := ⟨1, 8, [.tmp 2], b68⟩
def b70 : AC :=
 (zA [zC 4 0]
 (.seq (zA [zM 6 0,
 zH 7 6,
 zC 8 0]
 (.block 0 (.loop (zA [zO 9 (.bin .lss (zT 8) (zT 7))]
 (.seq (.cond (zT 9)
 .skip
 (.exit 0))
 (.seq (.block 1 (zA [zM 10 8,
 zM 5 10]
 (zA [zM 11 1,
 zM 12 0,
 zM 13 5,
 zO 14 (.iaddr 1 (zT 12) (zT 13)),
 zL 15 14,
 zO 16 (.callv (zT 11) [(zT 15)])]
 (.cond (zT 16)
 (zA [zM 17 5,
 zM 4 17]
 .ret)
 .skip))))
 (.reg [zJ 18 8 1,
 zM 8 18])))))))
 (zA [zC 4 (-1)]
 .ret)))
def g70 : Fn := ⟨2, 19, [.tmp 4], b70⟩
def b71 : AC :=
 (zA [zM 10 1,
 zJ 11 10 1,
 zM 8 11]
 (.block 0 (.loop (.seq (zA [zM 12 8,
 zM 13 2,
 zO 14 (.bin .lss (zT 12) (zT 13))]
 (.cond (zT 14)
 .skip
 (.exit 0)))
 (.seq (.block 1 (zA [zM 17 8,
 zM 9 17]
 (.block 2 (.loop (.seq (.seq (.regd [⟨[zB 18 9,
 zB 19 1], 0, [zO 20 (.bin .gtr (zT 18) (zT 19)),
 zM 21 20]⟩,
 ⟨[zP (zG 22 21 true (.mov (zT 3))),
 zP (zG 23 21 true (.mov (zT 0))),
 zP (zG 24 21 true (.mov (zT 9))),
 zP (zG 25 21 true (.iaddr 2 (zT 23) (zT 24))),
 zQ (zG 26 21 true (.load true 2 (zT 25))),
 zP (zG 27 21 true (.mov (zT 0))),
 zP (zG 28 21 true (.mov (zT 9))),
 zP (zG 29 21 true (.bin .sub (zT 28) (zI 1))),
 zP (zG 30 21 true (.iaddr 2 (zT 27) (zT 29))),
 zQ (zG 31 21 true (.load true 2 (zT 30)))], 0, [zG 32 21 true (.callv (zT 22) [(zT 26), (zT 31)]),
 zG 33 21 true (.bin .lss (zT 32) (zI 0)),
 zO 34 (.pick (zT 21) (zT 33) zF)]⟩])
 (.cond (zT 34)
 .skip
 (.exit 2)))
 (.seq (.block 3 (.regd [⟨[zB 37 0,
 zB 38 9,
 zB 39 0,
 zB 40 9,
 zP (zO 41 (.bin .sub (zT 40) (zI 1))),
 zB 42 0,
 zB 43 9,
 zP (zO 44 (.bin .sub (zT 43) (zI 1))),
 zP (zO 45 (.iaddr 2 (zT 42) (zT 44))),
 zQ (zE 46 2 45),
 zB 47 0,
 zB 48 9,
 zP (zO 49 (.iaddr 2 (zT 47) (zT 48))),
 zQ (zE 50 2 49),
 zP (zO 51 (.iaddr 2 (zT 37) (zT 38))),
 ⟨zN (.store 2 (zT 51) (zT 46)), false, true, false, 0, [], none⟩], 0, [zO 52 (.iaddr 2 (zT 39) (zT 41)),
 zN (.store 2 (zT 52) (zT 50))]⟩]))
 (.reg [zM 35 9,
 zO 36 (.bin .sub (zT 35) (zI 1)),
 zM 9 36])))))))
 (.reg [zM 15 8,
 zJ 16 15 1,
 zM 8 16]))))))
def g71 : Fn := ⟨4, 53, [], b71⟩
def b72 : AC :=
 (zA [zM 13 1,
 zM 8 13]
 (zA [zC 9 0]
 (zA [zM 14 2,
 zM 15 1,
 zO 16 (.bin .sub (zT 14) (zT 15)),
 zM 10 16]
 (.seq (zA [zM 17 10,
 zO 18 (.bin .sub (zT 17) (zI 1)),
 zO 19 (.bin .quo (zT 18) (zI 2)),
 zM 11 19]
 (.block 0 (.loop (.seq (zA [zM 20 11,
 zO 21 (.bin .geq (zT 20) (zI 0))]
 (.cond (zT 21)
 .skip
 (.exit 0)))
 (.seq (.block 1 (.reg [zM 24 0,
 zM 25 11,
 zM 26 10,
 zM 27 8,
 zM 28 3,
 zO 29 (.call 84 [(zT 24), (zT 25), (zT 26), (zT 27), (zT 28)])]))
 (.reg [zM 22 11,
 zO 23 (.bin .sub (zT 22) (zI 1)),
 zM 11 23]))))))
 (zA [zM 30 10,
 zO 31 (.bin .sub (zT 30) (zI 1)),
 zM 12 31]
 (.block 2 (.loop (.seq (zA [zM 32 12,
 zO 33 (.bin .geq (zT 32) (zI 0))]
 (.cond (zT 33)
 .skip
 (.exit 2)))
 (.seq (.block 3 (.seq (.regd [⟨[zB 36 0,
 zB 37 8,
 zB 38 0,
 zB 39 8,
 zB 40 12,
 zP (zO 41 (.bin .add (zT 39) (zT 40))),
 zB 42 0,
 zB 43 8,
 zB 44 12,
 zP (zO 45 (.bin .add (zT 43) (zT 44))),
 zP (zO 46 (.iaddr 2 (zT 42) (zT 45))),
 zQ (zE 47 2 46),
 zB 48 0,
 zB 49 8,
 zP (zO 50 (.iaddr 2 (zT 48) (zT 49))),
 zQ (zE 51 2 50),
 zP (zO 52 (.iaddr 2 (zT 36) (zT 37))),
 ⟨zN (.store 2 (zT 52) (zT 47)), false, true, false, 0, [], none⟩], 0, [zO 53 (.iaddr 2 (zT 38) (zT 41)),
 zN (.store 2 (zT 53) (zT 51))]⟩])
 (.reg [zM 54 0,
 zM 55 9,
 zM 56 12,
 zM 57 8,
 zM 58 3,
 zO 59 (.call 84 [(zT 54), (zT 55), (zT 56), (zT 57), (zT 58)])])))
 (.reg [zM 34 12,
 zO 35 (.bin .sub (zT 34) (zI 1)),
 zM 12 35]))))))))))
def g72 : Fn := ⟨4, 60, [], b72⟩
def b73 : AC :=
 (zA [zM 13 2,
 zM 14 1,
 zO 15 (.bin .sub (zT 13) (zT 14)),
 zM 8 15]
 (zA [zM 16 8,
 zO 17 (.bin .geq (zT 16) (zI 8))]
 (.cond (zT 17)
 (zA [zM 18 8,
 zO 19 (.conv .u64 (zT 18)),
 zO 9 (.alloc (.int .u64 0)),
 zN (.store 1 (zT 9) (zT 19))]
 (zA [zM 20 8,
 zO 21 (.call 85 [(zT 20)]),
 zM 10 21]
 (zA [zM 22 1,
 zM 23 8,
 zO 24 (.bin .quo (zT 23) (zI 4)),
 zO 25 (.bin .mul (zT 24) (zI 2)),
 zO 26 (.bin .add (zT 22) (zT 25)),
 zO 27 (.bin .sub (zT 26) (zI 1)),
 zM 11 27]
 (.block 0 (.loop (.seq (zA [zM 28 11,
 zM 29 1,
 zM 30 8,
 zO 31 (.bin .quo (zT 30) (zI 4)),
 zO 32 (.bin .mul (zT 31) (zI 2)),
 zO 33 (.bin .add (zT 29) (zT 32)),
 zJ 34 33 1,
 zO 35 (.bin .leq (zT 28) (zT 34))]
 (.cond (zT 35)
 .skip
 (.exit 0)))
 (.seq (.block 1 (zA [zO 38 (.call 86 [(zT 9)]),
 zM 39 10,
 zO 40 (.bin .sub (zT 39) (.con (.int .u64 1))),
 zO 41 (.bin .and (zT 38) (zT 40)),
 zO 42 (.conv .i64 (zT 41)),
 zM 12 42]
 (.seq (zA [zM 43 12,
 zM 44 8,
 zO 45 (.bin .geq (zT 43) (zT 44))]
 (.cond (zT 45)
 (.reg [zM 46 12,
 zM 47 8,
 zO 48 (.bin .sub (zT 46) (zT 47)),
 zM 12 48])
 .skip))
 (.regd [⟨[zB 49 0,
 zB 50 11,
 zB 51 0,
 zB 52 1,
 zB 53 12,
 zP (zO 54 (.bin .add (zT 52) (zT 53))),
 zB 55 0,
 zB 56 1,
 zB 57 12,
 zP (zO 58 (.bin .add (zT 56) (zT 57))),
 zP (zO 59 (.iaddr 2 (zT 55) (zT 58))),
 zQ (zE 60 2 59),
 zB 61 0,
 zB 62 11,
 zP (zO 63 (.iaddr 2 (zT 61) (zT 62))),
 zQ (zE 64 2 63),
 zP (zO 65 (.iaddr 2 (zT 49) (zT 50))),
 ⟨zN (.store 2 (zT 65) (zT 60)), false, true, false, 0, [], none⟩], 0, [zO 66 (.iaddr 2 (zT 51) (zT 54)),
 zN (.store 2 (zT 66) (zT 64))]⟩]))))
 (.reg [zM 36 11,
 zJ 37 36 1,
 zM 11 37]))))))))
 .skip)))
def g73 : Fn := ⟨4, 67, [], b73⟩
def b74 : AC :=
 (zA [zC 8 0,
 zC 9 0]
 (zA [zM 15 2,
 zM 16 1,
 zO 17 (.bin .sub (zT 15) (zT 16)),
 zM 10 17]
 (zA [zO 11 (.alloc (.int .i64 0))]
 (zA [zM 18 1,
 zM 19 10,
 zO 20 (.bin .quo (zT 19) (zI 4)),
 zO 21 (.bin .mul (zT 20) (zI 1)),
 zO 22 (.bin .add (zT 18) (zT 21)),
 zM 12 22]
 (zA [zM 23 1,
 zM 24 10,
 zO 25 (.bin .quo (zT 24) (zI 4)),
 zO 26 (.bin .mul (zT 25) (zI 2)),
 zO 27 (.bin .add (zT 23) (zT 26)),
 zM 13 27]
 (zA [zM 28 1,
 zM 29 10,
 zO 30 (.bin .quo (zT 29) (zI 4)),
 zO 31 (.bin .mul (zT 30) (zI 3)),
 zO 32 (.bin .add (zT 28) (zT 31)),
 zM 14 32]
 (.seq (zA [zM 33 10,
 zO 34 (.bin .geq (zT 33) (zI 8))]
 (.cond (zT 34)
 (.seq (zA [zM 35 10,
 zO 36 (.bin .geq (zT 35) (zI 50))]
 (.cond (zT 36)
 (zA [zM 37 0,
 zM 38 12,
 zM 39 3,
 zO 40 (.call 87 [(zT 37), (zT 38), (zT 11), (zT 39)]),
 zM 12 40]
 (zA [zM 41 0,
 zM 42 13,
 zM 43 3,
 zO 44 (.call 87 [(zT 41), (zT 42), (zT 11), (zT 43)]),
 zM 13 44]
 (.reg [zM 45 0,
 zM 46 14,
 zM 47 3,
 zO 48 (.call 87 [(zT 45), (zT 46), (zT 11), (zT 47)]),
 zM 14 48])))
 .skip))
 (.reg [zM 49 0,
 zM 50 12,
 zM 51 13,
 zM 52 14,
 zM 53 3,
 zO 54 (.call 88 [(zT 49), (zT 50), (zT 51), (zT 52), (zT 11), (zT 53)]),
 zM 13 54]))
 .skip))
 (zA [zL 55 11]
 (.block 0 (zA [zO 58 (.bin .eql (zT 55) (zI 0)),
 zM 57 58]
 (.cond (zT 57)
 (zA [zM 59 13,
 zM 8 59,
 zC 9 1]
 .ret)
 (zA [zO 61 (.bin .eql (zT 55) (zI 12)),
 zM 60 61]
 (.cond (zT 60)
 (zA [zM 62 13,
 zM 8 62,
 zC 9 2]
 .ret)
 (zA [zM 56 13,
 zM 8 56,
 zC 9 0]
 .ret))))))))))))))
def g74 : Fn := ⟨4, 63, [.tmp 8, .tmp 9], b74⟩
def b75 : AC :=
 (zA [zM 10 1,
 zM 8 10]
 (zA [zM 11 2,
 zO 12 (.bin .sub (zT 11) (zI 1)),
 zM 9 12]
 (.block 0 (.loop (.seq (zA [zM 13 8,
 zM 14 9,
 zO 15 (.bin .lss (zT 13) (zT 14))]
 (.cond (zT 15)
 .skip
 (.exit 0)))
 (.block 1 (.seq (.regd [⟨[zB 16 0,
 zB 17 8,
 zB 18 0,
 zB 19 9,
 zB 20 0,
 zB 21 9,
 zP (zO 22 (.iaddr 2 (zT 20) (zT 21))),
 zQ (zE 23 2 22),
 zB 24 0,
 zB 25 8,
 zP (zO 26 (.iaddr 2 (zT 24) (zT 25))),
 zQ (zE 27 2 26),
 zP (zO 28 (.iaddr 2 (zT 16) (zT 17))),
 ⟨zN (.store 2 (zT 28) (zT 23)), false, true, false, 0, [], none⟩], 0, [zO 29 (.iaddr 2 (zT 18) (zT 19)),
 zN (.store 2 (zT 29) (zT 27))]⟩])
 (zA [zM 30 8,
 zJ 31 30 1,
 zM 8 31]
 (.reg [zM 32 9,
 zO 33 (.bin .sub (zT 32) (zI 1)),
 zM 9 33])))))))))
def g75 : Fn := ⟨4, 34, [], b75⟩
def b76 : AC :=
 (zA [zO 8 (.mov zF)]
 (zA [zM 13 1,
 zJ 14 13 1,
 zM 9 14]
 (.seq (zA [zC 10 0]
 (.block 0 (.loop (.seq (zA [zM 15 10,
 zO 16 (.bin .lss (zT 15) (zI 5))]
 (.cond (zT 16)
 .skip
 (.exit 0)))
 (.seq (.block 1 (.seq (.block 2 (.loop (.seq (.seq (.regd [⟨[zB 19 9,
 zB 20 2], 0, [zO 21 (.bin .lss (zT 19) (zT 20)),
 zM 22 21]⟩,
 ⟨[zP (zG 23 22 true (.mov (zT 3))),
 zP (zG 24 22 true (.mov (zT 0))),
 zP (zG 25 22 true (.mov (zT 9))),
 zP (zG 26 22 true (.iaddr 2 (zT 24) (zT 25))),
 zQ (zG 27 22 true (.load true 2 (zT 26))),
 zP (zG 28 22 true (.mov (zT 0))),
 zP (zG 29 22 true (.mov (zT 9))),
 zP (zG 30 22 true (.bin .sub (zT 29) (zI 1))),
 zP (zG 31 22 true (.iaddr 2 (zT 28) (zT 30))),
 zQ (zG 32 22 true (.load true 2 (zT 31)))], 0, [zG 33 22 true (.callv (zT 23) [(zT 27), (zT 32)]),
 zG 34 22 true (.bin .lss (zT 33) (zI 0)),
 zG 35 22 true (.un .not (zT 34)),
 zO 36 (.pick (zT 22) (zT 35) zF)]⟩])
 (.cond (zT 36)
 .skip
 (.exit 2)))
 (.block 3 (.reg [zM 37 9,
 zJ 38 37 1,
 zM 9 38])))))
 (.seq (zA [zM 39 9,
 zM 40 2,
 zO 41 (.bin .eql (zT 39) (zT 40))]
 (.cond (zT 41)
 (zA [zO 8 (.mov (.con (.bool true)))]
 .ret)
 .skip))
 (.seq (zA [zM 42 2,
 zM 43 1,
 zO 44 (.bin .sub (zT 42) (zT 43)),
 zO 45 (.bin .lss (zT 44) (zI 50))]
 (.cond (zT 45)
 (zA [zO 8 (.mov zF)]
 .ret)
 .skip))
 (.seq (.regd [⟨[zB 46 0,
 zB 47 9,
 zB 48 0,
 zB 49 9,
 zP (zO 50 (.bin .sub (zT 49) (zI 1))),
 zB 51 0,
 zB 52 9,
 zP (zO 53 (.bin .sub (zT 52) (zI 1))),
 zP (zO 54 (.iaddr 2 (zT 51) (zT 53))),
 zQ (zE 55 2 54),
 zB 56 0,
 zB 57 9,
 zP (zO 58 (.iaddr 2 (zT 56) (zT 57))),
 zQ (zE 59 2 58),
 zP (zO 60 (.iaddr 2 (zT 46) (zT 47))),
 ⟨zN (.store 2 (zT 60) (zT 55)), false, true, false, 0, [], none⟩], 0, [zO 61 (.iaddr 2 (zT 48) (zT 50)),
 zN (.store 2 (zT 61) (zT 59))]⟩])
 (.seq (zA [zM 62 9,
 zM 63 1,
 zO 64 (.bin .sub (zT 62) (zT 63)),
 zO 65 (.bin .geq (zT 64) (zI 2))]
 (.cond (zT 65)
 (zA [zM 66 9,
 zO 67 (.bin .sub (zT 66) (zI 1)),
 zM 11 67]
 (.block 4 (.loop (.seq (zA [zM 68 11,
 zO 69 (.bin .geq (zT 68) (zI 1))]
 (.cond (zT 69)
 .skip
 (.exit 4)))
 (.seq (.block 5 (.seq (.seq (.regd [⟨[zB 72 3,
 zB 73 0,
 zB 74 11,
 zP (zO 75 (.iaddr 2 (zT 73) (zT 74))),
 zQ (zE 76 2 75),
 zB 77 0,
 zB 78 11,
 zP (zO 79 (.bin .sub (zT 78) (zI 1))),
 zP (zO 80 (.iaddr 2 (zT 77) (zT 79))),
 zQ (zE 81 2 80)], 0, [zO 82 (.callv (zT 72) [(zT 76), (zT 81)]),
 zO 83 (.bin .lss (zT 82) (zI 0)),
 zO 84 (.un .not (zT 83))]⟩])
 (.cond (zT 84)
 (.exit 4)
 .skip))
 (.regd [⟨[zB 85 0,
 zB 86 11,
 zB 87 0,
 zB 88 11,
 zP (zO 89 (.bin .sub (zT 88) (zI 1))),
 zB 90 0,
 zB 91 11,
 zP (zO 92 (.bin .sub (zT 91) (zI 1))),
 zP (zO 93 (.iaddr 2 (zT 90) (zT 92))),
 zQ (zE 94 2 93),
 zB 95 0,
 zB 96 11,
 zP (zO 97 (.iaddr 2 (zT 95) (zT 96))),
 zQ (zE 98 2 97),
 zP (zO 99 (.iaddr 2 (zT 85) (zT 86))),
 ⟨zN (.store 2 (zT 99) (zT 94)), false, true, false, 0, [], none⟩], 0, [zO 100 (.iaddr 2 (zT 87) (zT 89)),
 zN (.store 2 (zT 100) (zT 98))]⟩])))
 (.reg [zM 70 11,
 zO 71 (.bin .sub (zT 70) (zI 1)),
 zM 11 71]))))))
 .skip))
 (zA [zM 101 2,
 zM 102 9,
 zO 103 (.bin .sub (zT 101) (zT 102)),
 zO 104 (.bin .geq (zT 103) (zI 2))]
 (.cond (zT 104)
 (zA [zM 105 9,
 zJ 106 105 1,
 zM 12 106]
 (.block 6 (.loop (.seq (zA [zM 107 12,
 zM 108 2,
 zO 109 (.bin .lss (zT 107) (zT 108))]
 (.cond (zT 109)
 .skip
 (.exit 6)))
 (.seq (.block 7 (.seq (.seq (.regd [⟨[zB 112 3,
 zB 113 0,
 zB 114 12,
 zP (zO 115 (.iaddr 2 (zT 113) (zT 114))),
 zQ (zE 116 2 115),
 zB 117 0,
 zB 118 12,
 zP (zO 119 (.bin .sub (zT 118) (zI 1))),
 zP (zO 120 (.iaddr 2 (zT 117) (zT 119))),
 zQ (zE 121 2 120)], 0, [zO 122 (.callv (zT 112) [(zT 116), (zT 121)]),
 zO 123 (.bin .lss (zT 122) (zI 0)),
 zO 124 (.un .not (zT 123))]⟩])
 (.cond (zT 124)
 (.exit 6)
 .skip))
 (.regd [⟨[zB 125 0,
 zB 126 12,
 zB 127 0,
 zB 128 12,
 zP (zO 129 (.bin .sub (zT 128) (zI 1))),
 zB 130 0,
 zB 131 12,
 zP (zO 132 (.bin .sub (zT 131) (zI 1))),
 zP (zO 133 (.iaddr 2 (zT 130) (zT 132))),
 zQ (zE 134 2 133),
 zB 135 0,
 zB 136 12,
 zP (zO 137 (.iaddr 2 (zT 135) (zT 136))),
 zQ (zE 138 2 137),
 zP (zO 139 (.iaddr 2 (zT 125) (zT 126))),
 ⟨zN (.store 2 (zT 139) (zT 134)), false, true, false, 0, [], none⟩], 0, [zO 140 (.iaddr 2 (zT 127) (zT 129)),
 zN (.store 2 (zT 140) (zT 138))]⟩])))
 (.reg [zM 110 12,
 zJ 111 110 1,
 zM 12 111]))))))
 .skip))))))))
 (.reg [zM 17 10,
 zJ 18 17 1,
 zM 10 18]))))))
 (zA [zO 8 (.mov zF)]
 .ret))))
def g76 : Fn := ⟨4, 141, [.tmp 8], b76⟩
def b77 : AC :=
 (zA [zC 10 0]
 (.seq (.regd [⟨[zB 13 0,
 zB 14 1,
 zB 15 0,
 zB 16 3,
 zB 17 0,
 zB 18 3,
 zP (zO 19 (.iaddr 2 (zT 17) (zT 18))),
 zQ (zE 20 2 19),
 zB 21 0,
 zB 22 1,
 zP (zO 23 (.iaddr 2 (zT 21) (zT 22))),
 zQ (zE 24 2 23),
 zP (zO 25 (.iaddr 2 (zT 13) (zT 14))),
 ⟨zN (.store 2 (zT 25) (zT 20)), false, true, false, 0, [], none⟩], 0, [zO 26 (.iaddr 2 (zT 15) (zT 16)),
 zN (.store 2 (zT 26) (zT 24))]⟩])
 (zA [zM 27 1,
 zJ 28 27 1,
 zM 29 2,
 zO 30 (.bin .sub (zT 29) (zI 1)),
 zM 11 28,
 zM 12 30]
 (.seq (.block 0 (.loop (.block 1 (.seq (.block 2 (.loop (.seq (.seq (.regd [⟨[zB 31 11,
 zB 32 12], 0, [zO 33 (.bin .leq (zT 31) (zT 32)),
 zM 34 33]⟩,
 ⟨[zP (zG 35 34 true (.mov (zT 4))),
 zP (zG 36 34 true (.mov (zT 0))),
 zP (zG 37 34 true (.mov (zT 1))),
 zP (zG 38 34 true (.iaddr 2 (zT 36) (zT 37))),
 zQ (zG 39 34 true (.load true 2 (zT 38))),
 zP (zG 40 34 true (.mov (zT 0))),
 zP (zG 41 34 true (.mov (zT 11))),
 zP (zG 42 34 true (.iaddr 2 (zT 40) (zT 41))),
 zQ (zG 43 34 true (.load true 2 (zT 42)))], 0, [zG 44 34 true (.callv (zT 35) [(zT 39), (zT 43)]),
 zG 45 34 true (.bin .lss (zT 44) (zI 0)),
 zG 46 34 true (.un .not (zT 45)),
 zO 47 (.pick (zT 34) (zT 46) zF)]⟩])
 (.cond (zT 47)
 .skip
 (.exit 2)))
 (.block 3 (.reg [zM 48 11,
 zJ 49 48 1,
 zM 11 49])))))
 (.seq (.block 4 (.loop (.seq (.seq (.regd [⟨[zB 50 11,
 zB 51 12], 0, [zO 52 (.bin .leq (zT 50) (zT 51)),
 zM 53 52]⟩,
 ⟨[zP (zG 54 53 true (.mov (zT 4))),
 zP (zG 55 53 true (.mov (zT 0))),
 zP (zG 56 53 true (.mov (zT 1))),
 zP (zG 57 53 true (.iaddr 2 (zT 55) (zT 56))),
 zQ (zG 58 53 true (.load true 2 (zT 57))),
 zP (zG 59 53 true (.mov (zT 0))),
 zP (zG 60 53 true (.mov (zT 12))),
 zP (zG 61 53 true (.iaddr 2 (zT 59) (zT 60))),
 zQ (zG 62 53 true (.load true 2 (zT 61)))], 0, [zG 63 53 true (.callv (zT 54) [(zT 58), (zT 62)]),
 zG 64 53 true (.bin .lss (zT 63) (zI 0)),
 zO 65 (.pick (zT 53) (zT 64) zF)]⟩])
 (.cond (zT 65)
 .skip
 (.exit 4)))
 (.block 5 (.reg [zM 66 12,
 zO 67 (.bin .sub (zT 66) (zI 1)),
 zM 12 67])))))
 (.seq (zA [zM 68 11,
 zM 69 12,
 zO 70 (.bin .gtr (zT 68) (zT 69))]
 (.cond (zT 70)
 (.exit 0)
 .skip))
 (.seq (.regd [⟨[zB 71 0,
 zB 72 11,
 zB 73 0,
 zB 74 12,
 zB 75 0,
 zB 76 12,
 zP (zO 77 (.iaddr 2 (zT 75) (zT 76))),
 zQ (zE 78 2 77),
 zB 79 0,
 zB 80 11,
 zP (zO 81 (.iaddr 2 (zT 79) (zT 80))),
 zQ (zE 82 2 81),
 zP (zO 83 (.iaddr 2 (zT 71) (zT 72))),
 ⟨zN (.store 2 (zT 83) (zT 78)), false, true, false, 0, [], none⟩], 0, [zO 84 (.iaddr 2 (zT 73) (zT 74)),
 zN (.store 2 (zT 84) (zT 82))]⟩])
 (zA [zM 85 11,
 zJ 86 85 1,
 zM 11 86]
 (.reg [zM 87 12,
 zO 88 (.bin .sub (zT 87) (zI 1)),
 zM 12 88])))))))))
 (zA [zM 89 11,
 zM 10 89]
 .ret)))))
def g77 : Fn := ⟨5, 90, [.tmp 10], b77⟩
def b78 : AC :=
 (zA [zC 10 0,
 zO 11 (.mov zF)]
 (.seq (.regd [⟨[zB 14 0,
 zB 15 1,
 zB 16 0,
 zB 17 3,
 zB 18 0,
 zB 19 3,
 zP (zO 20 (.iaddr 2 (zT 18) (zT 19))),
 zQ (zE 21 2 20),
 zB 22 0,
 zB 23 1,
 zP (zO 24 (.iaddr 2 (zT 22) (zT 23))),
 zQ (zE 25 2 24),
 zP (zO 26 (.iaddr 2 (zT 14) (zT 15))),
 ⟨zN (.store 2 (zT 26) (zT 21)), false, true, false, 0, [], none⟩], 0, [zO 27 (.iaddr 2 (zT 16) (zT 17)),
 zN (.store 2 (zT 27) (zT 25))]⟩])
 (zA [zM 28 1,
 zJ 29 28 1,
 zM 30 2,
 zO 31 (.bin .sub (zT 30) (zI 1)),
 zM 12 29,
 zM 13 31]
 (.seq (.block 0 (.loop (.seq (.seq (.regd [⟨[zB 32 12,
 zB 33 13], 0, [zO 34 (.bin .leq (zT 32) (zT 33)),
 zM 35 34]⟩,
 ⟨[zP (zG 36 35 true (.mov (zT 4))),
 zP (zG 37 35 true (.mov (zT 0))),
 zP (zG 38 35 true (.mov (zT 12))),
 zP (zG 39 35 true (.iaddr 2 (zT 37) (zT 38))),
 zQ (zG 40 35 true (.load true 2 (zT 39))),
 zP (zG 41 35 true (.mov (zT 0))),
 zP (zG 42 35 true (.mov (zT 1))),
 zP (zG 43 35 true (.iaddr 2 (zT 41) (zT 42))),
 zQ (zG 44 35 true (.load true 2 (zT 43)))], 0, [zG 45 35 true (.callv (zT 36) [(zT 40), (zT 44)]),
 zG 46 35 true (.bin .lss (zT 45) (zI 0)),
 zO 47 (.pick (zT 35) (zT 46) zF)]⟩])
 (.cond (zT 47)
 .skip
 (.exit 0)))
 (.block 1 (.reg [zM 48 12,
 zJ 49 48 1,
 zM 12 49])))))
 (.seq (.block 2 (.loop (.seq (.seq (.regd [⟨[zB 50 12,
 zB 51 13], 0, [zO 52 (.bin .leq (zT 50) (zT 51)),
 zM 53 52]⟩,
 ⟨[zP (zG 54 53 true (.mov (zT 4))),
 zP (zG 55 53 true (.mov (zT 0))),
 zP (zG 56 53 true (.mov (zT 13))),
 zP (zG 57 53 true (.iaddr 2 (zT 55) (zT 56))),
 zQ (zG 58 53 true (.load true 2 (zT 57))),
 zP (zG 59 53 true (.mov (zT 0))),
 zP (zG 60 53 true (.mov (zT 1))),
 zP (zG 61 53 true (.iaddr 2 (zT 59) (zT 60))),
 zQ (zG 62 53 true (.load true 2 (zT 61)))], 0, [zG 63 53 true (.callv (zT 54) [(zT 58), (zT 62)]),
 zG 64 53 true (.bin .lss (zT 63) (zI 0)),
 zG 65 53 true (.un .not (zT 64)),
 zO 66 (.pick (zT 53) (zT 65) zF)]⟩])
 (.cond (zT 66)
 .skip
 (.exit 2)))
 (.block 3 (.reg [zM 67 13,
 zO 68 (.bin .sub (zT 67) (zI 1)),
 zM 13 68])))))
 (.seq (zA [zM 69 12,
 zM 70 13,
 zO 71 (.bin .gtr (zT 69) (zT 70))]
 (.cond (zT 71)
 (.seq (.regd [⟨[zB 72 0,
 zB 73 13,
 zB 74 0,
 zB 75 1,
 zB 76 0,
 zB 77 1,
 zP (zO 78 (.iaddr 2 (zT 76) (zT 77))),
 zQ (zE 79 2 78),
 zB 80 0,
 zB 81 13,
 zP (zO 82 (.iaddr 2 (zT 80) (zT 81))),
 zQ (zE 83 2 82),
 zP (zO 84 (.iaddr 2 (zT 72) (zT 73))),
 ⟨zN (.store 2 (zT 84) (zT 79)), false, true, false, 0, [], none⟩], 0, [zO 85 (.iaddr 2 (zT 74) (zT 75)),
 zN (.store 2 (zT 85) (zT 83))]⟩])
 (zA [zM 86 13,
 zM 10 86,
 zO 11 (.mov (.con (.bool true)))]
 .ret))
 .skip))
 (.seq (.regd [⟨[zB 87 0,
 zB 88 12,
 zB 89 0,
 zB 90 13,
 zB 91 0,
 zB 92 13,
 zP (zO 93 (.iaddr 2 (zT 91) (zT 92))),
 zQ (zE 94 2 93),
 zB 95 0,
 zB 96 12,
 zP (zO 97 (.iaddr 2 (zT 95) (zT 96))),
 zQ (zE 98 2 97),
 zP (zO 99 (.iaddr 2 (zT 87) (zT 88))),
 ⟨zN (.store 2 (zT 99) (zT 94)), false, true, false, 0, [], none⟩], 0, [zO 100 (.iaddr 2 (zT 89) (zT 90)),
 zN (.store 2 (zT 100) (zT 98))]⟩])
 (zA [zM 101 12,
 zJ 102 101 1,
 zM 12 102]
 (zA [zM 103 13,
 zO 104 (.bin .sub (zT 103) (zI 1)),
 zM 13 104]
 (.seq (.block 4 (.loop (.block 5 (.seq (.block 6 (.loop (.seq (.seq (.regd [⟨[zB 105 12,
 zB 106 13], 0, [zO 107 (.bin .leq (zT 105) (zT 106)),
 zM 108 107]⟩,
 ⟨[zP (zG 109 108 true (.mov (zT 4))),
 zP (zG 110 108 true (.mov (zT 0))),
 zP (zG 111 108 true (.mov (zT 12))),
 zP (zG 112 108 true (.iaddr 2 (zT 110) (zT 111))),
 zQ (zG 113 108 true (.load true 2 (zT 112))),
 zP (zG 114 108 true (.mov (zT 0))),
 zP (zG 115 108 true (.mov (zT 1))),
 zP (zG 116 108 true (.iaddr 2 (zT 114) (zT 115))),
 zQ (zG 117 108 true (.load true 2 (zT 116)))], 0, [zG 118 108 true (.callv (zT 109) [(zT 113), (zT 117)]),
 zG 119 108 true (.bin .lss (zT 118) (zI 0)),
 zO 120 (.pick (zT 108) (zT 119) zF)]⟩])
 (.cond (zT 120)
 .skip
 (.exit 6)))
 (.block 7 (.reg [zM 121 12,
 zJ 122 121 1,
 zM 12 122])))))
 (.seq (.block 8 (.loop (.seq (.seq (.regd [⟨[zB 123 12,
 zB 124 13], 0, [zO 125 (.bin .leq (zT 123) (zT 124)),
 zM 126 125]⟩,
 ⟨[zP (zG 127 126 true (.mov (zT 4))),
 zP (zG 128 126 true (.mov (zT 0))),
 zP (zG 129 126 true (.mov (zT 13))),
 zP (zG 130 126 true (.iaddr 2 (zT 128) (zT 129))),
 zQ (zG 131 126 true (.load true 2 (zT 130))),
 zP (zG 132 126 true (.mov (zT 0))),
 zP (zG 133 126 true (.mov (zT 1))),
 zP (zG 134 126 true (.iaddr 2 (zT 132) (zT 133))),
 zQ (zG 135 126 true (.load true 2 (zT 134)))], 0, [zG 136 126 true (.callv (zT 127) [(zT 131), (zT 135)]),
 zG 137 126 true (.bin .lss (zT 136) (zI 0)),
 zG 138 126 true (.un .not (zT 137)),
 zO 139 (.pick (zT 126) (zT 138) zF)]⟩])
 (.cond (zT 139)
 .skip
 (.exit 8)))
 (.block 9 (.reg [zM 140 13,
 zO 141 (.bin .sub (zT 140) (zI 1)),
 zM 13 141])))))
 (.seq (zA [zM 142 12,
 zM 143 13,
 zO 144 (.bin .gtr (zT 142) (zT 143))]
 (.cond (zT 144)
 (.exit 4)
 .skip))
 (.seq (.regd [⟨[zB 145 0,
 zB 146 12,
 zB 147 0,
 zB 148 13,
 zB 149 0,
 zB 150 13,
 zP (zO 151 (.iaddr 2 (zT 149) (zT 150))),
 zQ (zE 152 2 151),
 zB 153 0,
 zB 154 12,
 zP (zO 155 (.iaddr 2 (zT 153) (zT 154))),
 zQ (zE 156 2 155),
 zP (zO 157 (.iaddr 2 (zT 145) (zT 146))),
 ⟨zN (.store 2 (zT 157) (zT 152)), false, true, false, 0, [], none⟩], 0, [zO 158 (.iaddr 2 (zT 147) (zT 148)),
 zN (.store 2 (zT 158) (zT 156))]⟩])
 (zA [zM 159 12,
 zJ 160 159 1,
 zM 12 160]
 (.reg [zM 161 13,
 zO 162 (.bin .sub (zT 161) (zI 1)),
 zM 13 162])))))))))
 (.seq (.regd [⟨[zB 163 0,
 zB 164 13,
 zB 165 0,
 zB 166 1,
 zB 167 0,
 zB 168 1,
 zP (zO 169 (.iaddr 2 (zT 167) (zT 168))),
 zQ (zE 170 2 169),
 zB 171 0,
 zB 172 13,
 zP (zO 173 (.iaddr 2 (zT 171) (zT 172))),
 zQ (zE 174 2 173),
 zP (zO 175 (.iaddr 2 (zT 163) (zT 164))),
 ⟨zN (.store 2 (zT 175) (zT 170)), false, true, false, 0, [], none⟩], 0, [zO 176 (.iaddr 2 (zT 165) (zT 166)),
 zN (.store 2 (zT 176) (zT 174))]⟩])
 (zA [zM 177 13,
 zM 10 177,
 zO 11 (.mov zF)]
 .ret))))))))))))
def g78 : Fn := ⟨5, 178, [.tmp 10, .tmp 11], b78⟩
def b79 : AC :=
 (zA [zC 2 0]
 (.seq (zA [zM 3 0,
 zO 4 (.bin .geq (zT 3) (.con (.int .u32 65536)))]
 (.cond (zT 4)
 (zA [zM 5 0,
 zO 6 (.bin .shr (zT 5) (.con (.int .u64 16))),
 zM 0 6]
 (.reg [zC 2 16]))
 .skip))
 (.seq (zA [zM 7 0,
 zO 8 (.bin .geq (zT 7) (.con (.int .u32 256)))]
 (.cond (zT 8)
 (zA [zM 9 0,
 zO 10 (.bin .shr (zT 9) (.con (.int .u64 8))),
 zM 0 10]
 (.reg [zM 11 2,
 zJ 12 11 8,
 zM 2 12]))
 .skip))
 (zA [zM 13 2,
 zM 14 0,
 zO 15 (.conv .u8 (zT 14)),
 ⟨(some 16), none, .idxS (.con (.str ⟨#[0, 1, 2, 2, 3, 3, 3, 3, 4, 4, 4, 4, 4, 4, 4, 4, 5, 5, 5, 5, 5, 5, 5, 5, 5, 5, 5, 5, 5, 5, 5, 5, 6, 6, 6, 6, 6, 6, 6, 6, 6, 6, 6, 6, 6, 6, 6, 6, 6, 6, 6, 6, 6, 6, 6, 6, 6, 6, 6, 6, 6, 6, 6, 6, 7, 7, 7, 7, 7, 7, 7, 7, 7, 7, 7, 7, 7, 7, 7, 7, 7, 7, 7, 7, 7, 7, 7, 7, 7, 7, 7, 7, 7, 7, 7, 7, 7, 7, 7, 7, 7, 7, 7, 7, 7, 7, 7, 7, 7, 7, 7, 7, 7, 7, 7, 7, 7, 7, 7, 7, 7, 7, 7, 7, 7, 7, 7, 7, 8, 8, 8, 8, 8, 8, 8, 8, 8, 8, 8, 8, 8, 8, 8, 8, 8, 8, 8, 8, 8, 8, 8, 8, 8, 8, 8, 8, 8, 8, 8, 8, 8, 8, 8, 8, 8, 8, 8, 8, 8, 8, 8, 8, 8, 8, 8, 8, 8, 8, 8, 8, 8, 8, 8, 8, 8, 8, 8, 8, 8, 8, 8, 8, 8, 8, 8, 8, 8, 8, 8, 8, 8, 8, 8, 8, 8, 8, 8, 8, 8, 8, 8, 8, 8, 8, 8, 8, 8, 8, 8, 8, 8, 8, 8, 8, 8, 8, 8, 8, 8, 8, 8, 8, 8, 8, 8, 8, 8, 8, 8, 8, 8, 8, 8, 8, 8, 8, 8, 8, 8, 8, 8, 8, 8, 8, 8, 8]⟩)) (zT 15)⟩,
 zO 17 (.conv .i64 (zT 16)),
 zO 18 (.bin .add (zT 13) (zT 17)),
 zM 2 18]
 .ret))))
def g79 : Fn := ⟨1, 19, [.tmp 2], b79⟩
def b80 : AC :=
 (zA [zC 2 0]
 (.seq (zA [zM 3 0,
 zO 4 (.bin .geq (zT 3) (.con (.int .u64 4294967296)))]
 (.cond (zT 4)
 (zA [zM 5 0,
 zO 6 (.bin .shr (zT 5) (.con (.int .u64 32))),
 zM 0 6]
 (.reg [zC 2 32]))
 .skip))
 (.seq (zA [zM 7 0,
 zO 8 (.bin .geq (zT 7) (.con (.int .u64 65536)))]
 (.cond (zT 8)
 (zA [zM 9 0,
 zO 10 (.bin .shr (zT 9) (.con (.int .u64 16))),
 zM 0 10]
 (.reg [zM 11 2,
 zJ 12 11 16,
 zM 2 12]))
 .skip))
 (.seq (zA [zM 13 0,
 zO 14 (.bin .geq (zT 13) (.con (.int .u64 256)))]
 (.cond (zT 14)
 (zA [zM 15 0,
 zO 16 (.bin .shr (zT 15) (.con (.int .u64 8))),
 zM 0 16]
 (.reg [zM 17 2,
 zJ 18 17 8,
 zM 2 18]))
 .skip))
 (zA [zM 19 2,
 zM 20 0,
 zO 21 (.conv .u8 (zT 20)),
 ⟨(some 22), none, .idxS (.con (.str ⟨#[0, 1, 2, 2, 3, 3, 3, 3, 4, 4, 4, 4, 4, 4, 4, 4, 5, 5, 5, 5, 5, 5, 5, 5, 5, 5, 5, 5, 5, 5, 5, 5, 6, 6, 6, 6, 6, 6, 6, 6, 6, 6, 6, 6, 6, 6, 6, 6, 6, 6, 6, 6, 6, 6, 6, 6, 6, 6, 6, 6, 6, 6, 6, 6, 7, 7, 7, 7, 7, 7, 7, 7, 7, 7, 7, 7, 7, 7, 7, 7, 7, 7, 7, 7, 7, 7, 7, 7, 7, 7, 7, 7, 7, 7, 7, 7, 7, 7, 7, 7, 7, 7, 7, 7, 7, 7, 7, 7, 7, 7, 7, 7, 7, 7, 7, 7, 7, 7, 7, 7, 7, 7, 7, 7, 7, 7, 7, 7, 8, 8, 8, 8, 8, 8, 8, 8, 8, 8, 8, 8, 8, 8, 8, 8, 8, 8, 8, 8, 8, 8, 8, 8, 8, 8, 8, 8, 8, 8, 8, 8, 8, 8, 8, 8, 8, 8, 8, 8, 8, 8, 8, 8, 8, 8, 8, 8, 8, 8, 8, 8, 8, 8, 8, 8, 8, 8, 8, 8, 8, 8, 8, 8, 8, 8, 8, 8, 8, 8, 8, 8, 8, 8, 8, 8, 8, 8, 8, 8, 8, 8, 8, 8, 8, 8, 8, 8, 8, 8, 8, 8, 8, 8, 8, 8, 8, 8, 8, 8, 8, 8, 8, 8, 8, 8, 8, 8, 8, 8, 8, 8, 8, 8, 8, 8, 8, 8, 8, 8, 8, 8, 8, 8, 8, 8, 8, 8]⟩)) (zT 21)⟩,
 zO 23 (.conv .i64 (zT 22)),
 zO 24 (.bin .add (zT 19) (zT 23)),
 zM 2 24]
 .ret)))))
def g80 : Fn := ⟨1, 25, [.tmp 2], b80⟩
def b81 : AC :=
 (zA [zO 2 (.mov zF)]
 (zA [zM 3 0,
 zM 4 0,
 zO 5 (.bin .neq (zT 3) (zT 4)),
 zM 2 5]
 .ret))
def g81 : Fn := ⟨1, 6, [.tmp 2], b81⟩
def b83 : AC :=
 (.reg [zM 4 0,
 zM 5 0,
 zH 6 5,
 zM 7 1,
 zO 8 (.bin .sub (zT 6) (zT 7)),
 zO 9 (.call 89 [(zT 4), (zT 8)])])
def g83 : Fn := ⟨2, 10, [], b83⟩
def b84 : AC :=
 (zA [zM 12 1,
 zM 10 12]
 (.block 0 (.loop (.block 1 (zA [zM 13 10,
 zO 14 (.bin .mul (zI 2) (zT 13)),
 zJ 15 14 1,
 zM 11 15]
 (.seq (zA [zM 16 11,
 zM 17 2,
 zO 18 (.bin .geq (zT 16) (zT 17))]
 (.cond (zT 18)
 (.exit 0)
 .skip))
 (.seq (.seq (.regd [⟨[zB 19 11,
 zP (zJ 20 19 1),
 zB 21 2], 0, [zO 22 (.bin .lss (zT 20) (zT 21)),
 zM 23 22]⟩,
 ⟨[zP (zG 24 23 true (.mov (zT 4))),
 zP (zG 25 23 true (.mov (zT 0))),
 zP (zG 26 23 true (.mov (zT 3))),
 zP (zG 27 23 true (.mov (zT 11))),
 zP (zG 28 23 true (.bin .add (zT 26) (zT 27))),
 zP (zG 29 23 true (.iaddr 2 (zT 25) (zT 28))),
 zQ (zG 30 23 true (.load true 2 (zT 29))),
 zP (zG 31 23 true (.mov (zT 0))),
 zP (zG 32 23 true (.mov (zT 3))),
 zP (zG 33 23 true (.mov (zT 11))),
 zP (zG 34 23 true (.bin .add (zT 32) (zT 33))),
 zP (zG 35 23 true (.bin .add (zT 34) (zI 1))),
 zP (zG 36 23 true (.iaddr 2 (zT 31) (zT 35))),
 zQ (zG 37 23 true (.load true 2 (zT 36)))], 0, [zG 38 23 true (.callv (zT 24) [(zT 30), (zT 37)]),
 zG 39 23 true (.bin .lss (zT 38) (zI 0)),
 zO 40 (.pick (zT 23) (zT 39) zF)]⟩])
 (.cond (zT 40)
 (.reg [zM 41 11,
 zJ 42 41 1,
 zM 11 42])
 .skip))
 (.seq (.seq (.regd [⟨[zB 43 4,
 zB 44 0,
 zB 45 3,
 zB 46 10,
 zP (zO 47 (.bin .add (zT 45) (zT 46))),
 zP (zO 48 (.iaddr 2 (zT 44) (zT 47))),
 zQ (zE 49 2 48),
 zB 50 0,
 zB 51 3,
 zB 52 11,
 zP (zO 53 (.bin .add (zT 51) (zT 52))),
 zP (zO 54 (.iaddr 2 (zT 50) (zT 53))),
 zQ (zE 55 2 54)], 0, [zO 56 (.callv (zT 43) [(zT 49), (zT 55)]),
 zO 57 (.bin .lss (zT 56) (zI 0)),
 zO 58 (.un .not (zT 57))]⟩])
 (.cond (zT 58)
 .ret
 .skip))
 (.seq (.regd [⟨[zB 59 0,
 zB 60 3,
 zB 61 10,
 zP (zO 62 (.bin .add (zT 60) (zT 61))),
 zB 63 0,
 zB 64 3,
 zB 65 11,
 zP (zO 66 (.bin .add (zT 64) (zT 65))),
 zB 67 0,
 zB 68 3,
 zB 69 11,
 zP (zO 70 (.bin .add (zT 68) (zT 69))),
 zP (zO 71 (.iaddr 2 (zT 67) (zT 70))),
 zQ (zE 72 2 71),
 zB 73 0,
 zB 74 3,
 zB 75 10,
 zP (zO 76 (.bin .add (zT 74) (zT 75))),
 zP (zO 77 (.iaddr 2 (zT 73) (zT 76))),
 zQ (zE 78 2 77),
 zP (zO 79 (.iaddr 2 (zT 59) (zT 62))),
 ⟨zN (.store 2 (zT 79) (zT 72)), false, true, false, 0, [], none⟩], 0, [zO 80 (.iaddr 2 (zT 63) (zT 66)),
 zN (.store 2 (zT 80) (zT 78))]⟩])
 (.reg [zM 81 11,
 zM 10 81]))))))))))
def g84 : Fn := ⟨5, 82, [], b84⟩
def b85 : AC :=
 (zA [zO 2 (.mov (.con (.int .u64 0)))]
 (zA [zM 3 0,
 zO 4 (.conv .u64 (zT 3)),
 zO 5 (.call 63 [(zT 4)]),
 zO 6 (.bin .shl (.con (.int .u64 1)) (zT 5)),
 zM 2 6]
 .ret))
def g85 : Fn := ⟨1, 7, [.tmp 2], b85⟩
def b86 : AC :=
 (zA [zO 2 (.mov (.con (.int .u64 0)))]
 (.seq (.regd [⟨[zB 3 0,
 zP (zO 4 (.nilck (zT 3))),
 zQ (zL 5 4),
 zB 6 0,
 zP (zO 7 (.nilck (zT 6))),
 zQ (zL 8 7),
 zP (zO 9 (.bin .shl (zT 8) (.con (.int .u64 13))))], 0, [zO 10 (.bin .xor (zT 5) (zT 9)),
 zO 11 (.nilck (zT 3)),
 zN (.store 1 (zT 11) (zT 10))]⟩])
 (.seq (.regd [⟨[zB 12 0,
 zP (zO 13 (.nilck (zT 12))),
 zQ (zL 14 13),
 zB 15 0,
 zP (zO 16 (.nilck (zT 15))),
 zQ (zL 17 16),
 zP (zO 18 (.bin .shr (zT 17) (.con (.int .u64 7))))], 0, [zO 19 (.bin .xor (zT 14) (zT 18)),
 zO 20 (.nilck (zT 12)),
 zN (.store 1 (zT 20) (zT 19))]⟩])
 (.seq (.regd [⟨[zB 21 0,
 zP (zO 22 (.nilck (zT 21))),
 zQ (zL 23 22),
 zB 24 0,
 zP (zO 25 (.nilck (zT 24))),
 zQ (zL 26 25),
 zP (zO 27 (.bin .shl (zT 26) (.con (.int .u64 17))))], 0, [zO 28 (.bin .xor (zT 23) (zT 27)),
 zO 29 (.nilck (zT 21)),
 zN (.store 1 (zT 29) (zT 28))]⟩])
 (zA [zM 30 0,
 zO 31 (.nilck (zT 30)),
 zL 32 31,
 zM 2 32]
 .ret)))))
def g86 : Fn := ⟨1, 33, [.tmp 2], b86⟩
def b87 : AC :=
 (zA [zC 8 0]
 (zA [zM 9 0,
 zM 10 1,
 zO 11 (.bin .sub (zT 10) (zI 1)),
 zM 12 1,
 zM 13 1,
 zJ 14 13 1,
 zM 15 2,
 zM 16 3,
 zO 17 (.call 88 [(zT 9), (zT 11), (zT 12), (zT 14), (zT 15), (zT 16)]),
 zM 8 17]
 .ret))
def g87 : Fn := ⟨4, 18, [.tmp 8], b87⟩
def b88 : AC :=
 (zA [zC 12 0]
 (zA [zM 14 0,
 zM 15 1,
 zM 16 2,
 zM 17 4,
 zM 18 5,
 zO 19 (.call 90 [(zT 14), (zT 15), (zT 16), (zT 17), (zT 18)]),
 zM 13 19,
 zO 20 (.ext (zT 13) 0),
 zO 21 (.ext (zT 13) 1),
 zM 1 20,
 zM 2 21]
 (zA [zM 23 0,
 zM 24 2,
 zM 25 3,
 zM 26 4,
 zM 27 5,
 zO 28 (.call 90 [(zT 23), (zT 24), (zT 25), (zT 26), (zT 27)]),
 zM 22 28,
 zO 29 (.ext (zT 22) 0),
 zO 30 (.ext (zT 22) 1),
 zM 2 29,
 zM 3 30]
 (zA [zM 32 0,
 zM 33 1,
 zM 34 2,
 zM 35 4,
 zM 36 5,
 zO 37 (.call 90 [(zT 32), (zT 33), (zT 34), (zT 35), (zT 36)]),
 zM 31 37,
 zO 38 (.ext (zT 31) 0),
 zO 39 (.ext (zT 31) 1),
 zM 1 38,
 zM 2 39]
 (zA [zM 40 2,
 zM 12 40]
 .ret)))))
def g88 : Fn := ⟨6, 41, [.tmp 12], b88⟩
def b89 : AC :=
 (zA [zM 4 0,
 zM 5 1,
 zO 6 (.slice 4 (zT 4) none (some (zT 5))),
 zO 7 (.call 91 [(zT 6)])]
 (zA [zM 8 0,
 zM 9 1,
 zO 10 (.slice 4 (zT 8) (some (zT 9)) none),
 zO 11 (.call 91 [(zT 10)])]
 (.reg [zM 12 0,
 zO 13 (.call 91 [(zT 12)])])))
def g89 : Fn := ⟨2, 14, [], b89⟩
def b90 : AC :=
 (zA [zC 10 0,
 zC 11 0]
 (.seq (.seq (.regd [⟨[zB 12 4,
 zB 13 0,
 zB 14 2,
 zP (zO 15 (.iaddr 2 (zT 13) (zT 14))),
 zQ (zE 16 2 15),
 zB 17 0,
 zB 18 1,
 zP (zO 19 (.iaddr 2 (zT 17) (zT 18))),
 zQ (zE 20 2 19)], 0, [zO 21 (.callv (zT 12) [(zT 16), (zT 20)]),
 zO 22 (.bin .lss (zT 21) (zI 0))]⟩])
 (.cond (zT 22)
 (zA [zM 23 3,
 zO 24 (.nilck (zT 23)),
 zL 25 24,
 zJ 26 25 1,
 zO 27 (.nilck (zT 23)),
 zN (.store 1 (zT 27) (zT 26))]
 (zA [zM 28 2,
 zM 29 1,
 zM 10 28,
 zM 11 29]
 .ret))
 .skip))
 (zA [zM 30 1,
 zM 31 2,
 zM 10 30,
 zM 11 31]
 .ret)))
def g90 : Fn := ⟨5, 32, [.tmp 10, .tmp 11], b90⟩
def b91 : AC :=
 (zA [zM 4 0,
 zH 5 4,
 zO 6 (.bin .sub (zT 5) (zI 1)),
 zC 2 0,
 zM 3 6]
 (.block 0 (.loop (.seq (zA [zM 7 2,
 zM 8 3,
 zO 9 (.bin .lss (zT 7) (zT 8))]
 (.cond (zT 9)
 .skip
 (.exit 0)))
 (.seq (.block 1 (.regd [⟨[zB 14 0,
 zB 15 2,
 zB 16 0,
 zB 17 3,
 zB 18 0,
 zB 19 3,
 zP (zO 20 (.iaddr 4 (zT 18) (zT 19))),
 zQ (zE 21 4 20),
 zB 22 0,
 zB 23 2,
 zP (zO 24 (.iaddr 4 (zT 22) (zT 23))),
 zQ (zE 25 4 24),
 zP (zO 26 (.iaddr 4 (zT 14) (zT 15))),
 ⟨zN (.store 4 (zT 26) (zT 21)), false, true, false, 0, [], none⟩], 0, [zO 27 (.iaddr 4 (zT 16) (zT 17)),
 zN (.store 4 (zT 27) (zT 25))]⟩]))
 (.reg [zM 10 2,
 zJ 11 10 1,
 zM 12 3,
 zO 13 (.bin .sub (zT 12) (zI 1)),
 zM 2 11,
 zM 3 13]))))))
def g91 : Fn := ⟨1, 28, [], b91⟩
def fnOf : Nat → Option Fn
 | 8 => some g8
 | 15 => some g15
 | 21 => some g21
 | 25 => some g25
 | 32 => some g32
 | 33 => some g33
 | 37 => some g37
 | 38 => some g38
 | 39 => some g39
 | 40 => some g40
 | 41 => some g41
 | 42 => some g42
 | 43 => some g43
 | 46 => some g46
 | 47 => some g47
 | 49 => some g49
 | 52 => some g52
 | 53 => some g53
 | 54 => some g54
 | 55 => some g55
 | 59 => some g59
 | 60 => some g60
 | 61 => some g61
 | 62 => some g62
 | 63 => some g63
 | 64 => some g64
 | 65 => some g65
 | 66 => some g66
 | 68 => some g68
 | 70 => some g70
 | 71 => some g71
 | 72 => some g72
 | 73 => some g73
 | 74 => some g74
 | 75 => some g75
 | 76 => some g76
 | 77 => some g77
 | 78 => some g78
 | 79 => some g79
 | 80 => some g80
 | 81 => some g81
 | 83 => some g83
 | 84 => some g84
 | 85 => some g85
 | 86 => some g86
 | 87 => some g87
 | 88 => some g88
 | 89 => some g89
 | 90 => some g90
 | 91 => some g91
 | _ => none
def modeOf (f : Nat) : Mode := if f ∈ [68] then .own else if f ∈ [39, 41, 62, 71, 72, 73, 75, 76, 77, 78, 84, 86, 87, 88, 90, 53, 54, 55] then .raw else .pure
def primOf : Nat → Option Prim
 | 69 => some (insP 4 48)
 | 56 => some (delP 4 48)
 | _ => none
def T : Tab := { fn := fnOf, mode := modeOf, prim := primOf }
end Go.Q.SK
end

section
/- slices.Insert and slices.Delete of rows of writes, walked. -/
namespace Go.Q.S16
open Go.Proofs Go.Shelf Go.RowKit Go.Lib
set_option maxHeartbeats 4000000 in
set_option maxRecDepth 100000 in
theorem ins_end (base : Option Addr) (n c vb vc : Nat) (w w1 : World) (u : Value) (hr : ∀ ty, (Builtin.append_ #[22, 22] ty #[.slice base n c, .slice (some ⟨vb, 0, none⟩) 1 vc]).run Try.prog w = .ok u w1) :
 Calls Try.prog 69 #[.slice base n c, .int .i64 n, .slice (some ⟨vb, 0, none⟩) 1 vc] w fun e w' => e = .returned u ∧ w' = w1 := by
 have hnn : n ≤ n := Nat.le_refl _
 cases base with
 | none =>
   go_enter Try.func69, Try.ntmps69
   go_wp2_with (at_builtin; refine Lib.wpList_append_run _ rfl _ _ _ _ rfl _ _ rfl rfl _ _ (hr _) ?_)
   all_goals (go_ret; exact ⟨rfl, rfl⟩)
 | some a =>
   obtain ⟨ab, ao, asp⟩ := a
   go_enter Try.func69, Try.ntmps69
   go_wp2_with (at_builtin; refine Lib.wpList_append_run _ rfl _ _ _ _ rfl _ _ rfl rfl _ _ (hr _) ?_)
   all_goals (go_ret; exact ⟨rfl, rfl⟩)
variable [Link]
theorem sz35 : ∀ w, (Go.sizeOf 35).run Try.prog w = .ok 4 w := fun w => by
 have h : (Try.prog.info? 35).map (·.size) = some 4 := by kernel_rfl
 cases hi : Try.prog.info? 35 with
 | none => rw [hi] at h; cases h
 | some i => rw [hi] at h; simp only [Option.map_some, Option.some.injEq] at h; simp [sizeOf, typeInfo, hi, h]
theorem info35 : ∃ i z, Try.prog.info? 35 = some i ∧ i.size = 4 ∧ i.bytes = 48 ∧ i.zero = some z ∧ z.cells.size = 4 := by
 have h : (Try.prog.info? 35).map (fun i => (i.size, i.bytes, i.zero.map (fun z => z.cells.size))) = some (4, 48, some 4) := by kernel_rfl
 cases hi : Try.prog.info? 35 with
 | none => rw [hi] at h; cases h
 | some i =>
   rw [hi] at h
   simp only [Option.map_some, Option.some.injEq, Prod.mk.injEq, Option.map_eq_some_iff] at h
   obtain ⟨h1, h2, z, h3, h4⟩ := h
   exact ⟨i, z, rfl, h1, h2, h3, h4⟩
set_option maxHeartbeats 4000000 in
set_option maxRecDepth 100000 in
theorem ins_grow (b n c i vb vc : Nat) (cs vs : Array Value) (ty tv : TypeId) (w : World) (hi : i < n) (hnc : n ≤ c) (hroom : c < n + 1) (hbig : (n + 1) * 48 ≤ 140737488355328) (hvb : vb ≠ b)
 (hb : w.heap[b]? = some (.cells cs ty (0, 0))) (hcz : c * 4 ≤ cs.size) (hv : w.heap[vb]? = some (.cells vs tv (0, 0))) (hvz : 4 ≤ vs.size)
 (h1 : (cut cs (i * 4) ((n - i) * 4)).all Value.oneCell' = true) (h2 : (cut vs 0 4).all Value.oneCell' = true) :
 Calls Try.prog 69 #[.slice (some ⟨b, 0, none⟩) n c, .int .i64 i, .slice (some ⟨vb, 0, none⟩) 1 vc] w fun e w' =>
  ∃ G ROW d, n + 1 ≤ G ∧ ROW.size = G * 4 ∧ (∀ k, k < i * 4 → ROW[k]? = cs[k]?) ∧ e = .returned (.slice (some ⟨w.heap.size, 0, none⟩) (n + 1) G) ∧
   w' = { putRow (w.alloc (.cells ROW 35)) w.heap.size (writeAt (writeAt ROW (i * 4) (cut vs 0 4)) ((i + 1) * 4) (cut cs (i * 4) ((n - i) * 4))) 35 with drawn := d } := by
 obtain ⟨i0, z0, hi0, hi1, hi2, hi3, hi4⟩ := info35
 have hz2 : ¬ ((i : Int) = (n : Int)) := by omega
 have hz3 : (c : Int) < (n : Int) + 1 := by omega
 have hlt := (Array.getElem?_eq_some_iff.1 hb).1
 have hltv := (Array.getElem?_eq_some_iff.1 hv).1
 have hkk : (n : Int) + 1 - (i : Int) = ((n + 1 - i : Nat) : Int) := by omega
 have hik : i + (n + 1 - i) = n + 1 := by omega
 have hold : (Builtin.firstCells i0.size i (.slice (some ⟨b, 0, none⟩) i c)).run Try.prog w.drew = .ok (cut cs 0 (i * 4)).toArray w.drew := by
  rw [hi1]
  exact cut_load (w := w.drew) hb (by omega)
 have hrz : ∀ ty, (Builtin.append_ #[22, 3] ty #[.slice (some ⟨b, 0, none⟩) i c, .int .i64 ((n : Int) + 1 - (i : Int))]).run Try.prog w =
  .ok (.slice (some ⟨w.heap.size, 0, none⟩) (n + 1) (grownCap w (n + 1) c 35)) (w.drew.alloc (.cells ((cut cs 0 (i * 4)).toArray ++ Builtin.zeroCells z0.cells (n + 1 - i) ++ Builtin.zeroCells z0.cells (grownCap w (n + 1) c 35 - (n + 1))) 35)) := fun ty => by
  have h := Lib.run_append_grow_zeros w 22 3 ty 35 i0 z0 .i64 .i64 Try.underlying22 Try.underlying3 hi0 hi3 (some ⟨b, 0, none⟩) i c _ hold (n + 1 - i) (by omega) (by omega) (by omega) (by omega) (by rw [hi2]; omega) (by rw [hi2, hik]; exact growslice_fits hroom hbig)
  rw [hik] at h
  rw [hkk]
  exact h
 obtain ⟨G, hG⟩ : ∃ G, G = grownCap w (n + 1) c 35 := ⟨_, rfl⟩
 obtain ⟨ROW, hROW⟩ : ∃ ROW : Array Value, ROW = (cut cs 0 (i * 4)).toArray ++ Builtin.zeroCells z0.cells (n + 1 - i) ++ Builtin.zeroCells z0.cells (G - (n + 1)) := ⟨_, rfl⟩
 rw [← hG] at hrz
 rw [← hROW] at hrz
 have hGn : n + 1 ≤ G := by rw [hG]; exact grownCap_ge w _ _ _
 have hG63 : G ≤ 9223372036854775807 := by
  have := grownCap_le_maxLen w (n + 1) c 35 (by unfold maxLen; omega)
  rw [← hG] at this
  unfold maxLen at this
  omega
 have hc0 : (cut cs 0 (i * 4)).length = i * 4 := cut_len (by omega)
 have hRl : ROW.size = G * 4 := by
  rw [hROW]
  simp only [Array.size_append, List.size_toArray, hc0, Builtin.zeroCells, Array.size_map, Array.size_range, hi4]
  omega
 have hR0 : ∀ k, k < i * 4 → ROW[k]? = cs[k]? := fun k hk => by
  rw [hROW, Array.append_assoc, Array.getElem?_append_left (by simp [hc0]; omega), List.getElem?_toArray, cut_get hk, Nat.zero_add]
 have hbB : b ≠ w.heap.size := by omega
 have hvB : vb ≠ w.heap.size := by omega
 have hW1B : (w.alloc (.cells ROW 35)).heap[w.heap.size]? = some (.cells ROW 35 (0, 0)) := by show (w.heap.push _)[w.heap.size]? = _; simp
 have hW1b : (w.alloc (.cells ROW 35)).heap[b]? = some (.cells cs ty (0, 0)) := by rw [Go.RowKit.Below.heap_alloc _ _ _ hlt]; exact hb
 have hW1v : (w.alloc (.cells ROW 35)).heap[vb]? = some (.cells vs tv (0, 0)) := by rw [Go.RowKit.Below.heap_alloc _ _ _ hltv]; exact hv
 have hWs : w.heap.size < (w.alloc (.cells ROW 35)).heap.size := by simp
 have hcpA : ∀ W : World, W.heap = (w.alloc (.cells ROW 35)).heap → ∀ ty' dc, (Builtin.copy_ #[22, 22] ty' #[.slice (some ⟨w.heap.size, i * 4, none⟩) (n + 1 - i) dc, .slice (some ⟨vb, 0, none⟩) 1 vc]).run Try.prog W = .ok (goInt 1) (putRow W w.heap.size (writeAt ROW (i * 4) (cut vs 0 4)) 35) := fun W hW ty' dc =>
  run_copyB (w := W) (sz := 4) (o := i * 4) (o' := 0) (l := 1) (dl := n + 1 - i) (k := 1) Try.underlying22 sz35 (by rw [hW]; exact hW1B) (by rw [hW]; exact hW1v) (by simp only [Nat.min_def]; split <;> omega) (by omega) (by omega) h2
 have hcpB : ∀ W : World, W.heap = (putRow (w.alloc (.cells ROW 35)) w.heap.size (writeAt ROW (i * 4) (cut vs 0 4)) 35).heap → ∀ ty' dc sc, (Builtin.copy_ #[22, 22] ty' #[.slice (some ⟨w.heap.size, (i + 1) * 4, none⟩) (n + 1 - (i + 1)) dc, .slice (some ⟨b, i * 4, none⟩) (n - i) sc]).run Try.prog W =
  .ok (goInt ((n - i : Nat) : Int)) (putRow W w.heap.size (writeAt (writeAt ROW (i * 4) (cut vs 0 4)) ((i + 1) * 4) (cut cs (i * 4) ((n - i) * 4))) 35) := fun W hW ty' dc sc =>
  run_copyB (w := W) (sz := 4) (o := (i + 1) * 4) (o' := i * 4) (l := n - i) (dl := n + 1 - (i + 1)) (k := n - i) Try.underlying22 sz35 (by rw [hW]; exact putRow_heap_same hWs) (by rw [hW, putRow_heap_other hbB]; exact hW1b) (by simp only [Nat.min_def]; split <;> omega) (by simp; omega) (by omega) h1
 have core : Calls Try.prog 69 #[.slice (some ⟨b, 0, none⟩) n c, .int .i64 i, .slice (some ⟨vb, 0, none⟩) 1 vc] w fun e w' =>
  e = .returned (.slice (some ⟨w.heap.size, 0, none⟩) (n + 1) G) ∧ ∃ d, w' = { putRow (w.alloc (.cells ROW 35)) w.heap.size (writeAt (writeAt ROW (i * 4) (cut vs 0 4)) ((i + 1) * 4) (cut cs (i * 4) ((n - i) * 4))) 35 with drawn := d } := by
  clear hROW hG hold hkk hik hR0 hRl
  have hGi : ¬ (G = i) := by omega
  have hGim : ¬ (G = i + 1) := by omega
  have hci : ¬ (c = i) := by omega
  have hw1 : IntKind.i64.wrap ((i : Int) + 1) = (i : Int) + 1 := by rw [IntKind.wrap_i64]; omega
  have hw2 : IntKind.i64.wrap ((n : Int) + 1) = (n : Int) + 1 := by rw [IntKind.wrap_i64]; omega
  have hw3 : IntKind.i64.wrap ((n : Int) + 1 - (i : Int)) = (n : Int) + 1 - (i : Int) := by rw [IntKind.wrap_i64]; omega
  have hb1 : (0 : Int) ≤ (i : Int) + 1 := by omega
  have hin : i ≤ n := by omega
  have htn : ((i : Int) + 1).toNat = i + 1 := by omega
  have hb3 : (i : Int) ≤ (n : Int) := by omega
  have hE1 : ((w.alloc (.cells ROW 35)).drew).heap = (w.alloc (.cells ROW 35)).heap := rfl
  have hF1 : ((putRow ((w.alloc (.cells ROW 35)).drew) w.heap.size (writeAt ROW (i * 4) (cut vs 0 4)) 35).drew).heap = (putRow (w.alloc (.cells ROW 35)) w.heap.size (writeAt ROW (i * 4) (cut vs 0 4)) 35).heap := rfl
  have mixed : Try.prog.follows .mixedOrders = true := by kernel_rfl
  go_enter Try.func69, Try.ntmps69
  go_wp2_with (first
   | (at_builtin; refine Lib.wpList_append_run _ rfl _ _ _ _ rfl _ _ rfl rfl _ _ (hrz _) ?_)
   | (at_builtin; refine wpList_copy_runI _ rfl _ _ 22 22 rfl _ _ rfl rfl (hcpA _ hE1 _ _) ?_))
  go_region_law_o (refine step_copy_runI rfl _ _ 22 22 rfl (.slice (some ⟨w.heap.size, (i + 1) * 4, none⟩) (n + 1 - (i + 1)) (G - (i + 1))) (.slice (some ⟨b, i * 4, none⟩) (n - i) (c - i)) (by simp [Act.eval, Act.put]) (by simp [Act.eval, Act.put]) (hcpB _ hF1 _ (G - (i + 1)) (c - i)) ?_)
  go_wp2
  go_ret
  refine ⟨rfl, (w.alloc (.cells ROW 35)).drew.drew.drawn, ?_⟩
  rw [show ∀ W : World, ∀ x y, putRow (putRow W w.heap.size x 35).drew w.heap.size y 35 = putRow W.drew w.heap.size y 35 from fun W x y => putRow_twice (w := W.drew)]
  rfl
 exact core.mono fun e w' ⟨h1, d, h2⟩ => ⟨G, ROW, d, hGn, hRl, hR0, h1, h2⟩
set_option maxHeartbeats 4000000 in
set_option maxRecDepth 100000 in
theorem ins_shift (b n c i vb vc : Nat) (cs vs : Array Value) (ty tv : TypeId) (w : World) (hi : i < n) (hroom : n + 1 ≤ c) (hbig : (n + 1) * 48 ≤ 140737488355328) (hvb : vb ≠ b)
 (hb : w.heap[b]? = some (.cells cs ty (0, 0))) (hcz : c * 4 ≤ cs.size) (hv : w.heap[vb]? = some (.cells vs tv (0, 0))) (hvz : 4 ≤ vs.size)
 (h1 : (cut cs (i * 4) ((n - i) * 4)).all Value.oneCell' = true) (h2 : (cut vs 0 4).all Value.oneCell' = true) :
 Calls Try.prog 69 #[.slice (some ⟨b, 0, none⟩) n c, .int .i64 i, .slice (some ⟨vb, 0, none⟩) 1 vc] w fun e w' =>
  e = .returned (.slice (some ⟨b, 0, none⟩) (n + 1) c) ∧ w' = putRow w.drew b (writeAt (writeAt cs ((i + 1) * 4) (cut cs (i * 4) ((n - i) * 4))) (i * 4) (cut vs 0 4)) ty := by
 have hz2 : ¬ ((i : Int) = (n : Int)) := by omega
 have hov : ∀ lb cb, (callFunc 82 #[.slice (some ⟨vb, 0, none⟩) 1 vc, .slice (some ⟨b, (i + 1) * 4, none⟩) lb cb]).run Try.prog w = .ok (.value (.bool false)) w := fun lb cb => by
  rw [run_callFunc_extern Try.func82 (by kernel_rfl) (by kernel_rfl) (by kernel_rfl) (e := Extern.SlicesOverlaps.overlaps #[22, 22] #[4]) (by kernel_rfl),
   Lib.run_overlaps_apart w 22 4 35 Try.underlying22 4 sz35 ⟨vb, 0, none⟩ ⟨b, (i + 1) * 4, none⟩ 1 vc lb cb hvb tv ty vs.size cs.size (by simp [World.shape?, hv]) (by simp [World.shape?, hb]) (by omega) (by simp [World.frozen?, hv]) (by simp [World.frozen?, hv])]
  rfl
 have hbd : w.drew.heap[b]? = some (.cells cs ty (0, 0)) := hb
 have hcp1 : ∀ ty' dc sc, (Builtin.copy_ #[22, 22] ty' #[.slice (some ⟨b, (i + 1) * 4, none⟩) (n + 1 - (i + 1)) dc, .slice (some ⟨b, i * 4, none⟩) (n + 1 - i) sc]).run Try.prog w.drew = .ok (goInt ((n - i : Nat) : Int)) (putRow w.drew b (writeAt cs ((i + 1) * 4) (cut cs (i * 4) ((n - i) * 4))) ty) := fun ty' dc sc =>
  run_copyB (w := w.drew) (sz := 4) (o := (i + 1) * 4) (o' := i * 4) (l := n + 1 - i) (dl := n + 1 - (i + 1)) (k := n - i) Try.underlying22 sz35 hbd hbd (by simp only [Nat.min_def]; split <;> omega) (by omega) (by omega) h1
 have hlt := (Array.getElem?_eq_some_iff.1 hb).1
 have hW1b : (putRow w.drew b (writeAt cs ((i + 1) * 4) (cut cs (i * 4) ((n - i) * 4))) ty).heap[b]? = some (.cells (writeAt cs ((i + 1) * 4) (cut cs (i * 4) ((n - i) * 4))) ty (0, 0)) := putRow_heap_same hlt
 have hW1v : (putRow w.drew b (writeAt cs ((i + 1) * 4) (cut cs (i * 4) ((n - i) * 4))) ty).heap[vb]? = some (.cells vs tv (0, 0)) := by rw [putRow_heap_other hvb]; exact hv
 have hcp2 : ∀ ty' dc, (Builtin.copy_ #[22, 22] ty' #[.slice (some ⟨b, i * 4, none⟩) (n + 1 - i) dc, .slice (some ⟨vb, 0, none⟩) 1 vc]).run Try.prog (putRow w.drew b (writeAt cs ((i + 1) * 4) (cut cs (i * 4) ((n - i) * 4))) ty) = .ok (goInt 1) (putRow w.drew b (writeAt (writeAt cs ((i + 1) * 4) (cut cs (i * 4) ((n - i) * 4))) (i * 4) (cut vs 0 4)) ty) := fun ty' dc => by
  rw [run_copyB (w := (putRow w.drew b (writeAt cs ((i + 1) * 4) (cut cs (i * 4) ((n - i) * 4))) ty)) (sz := 4) (o := i * 4) (o' := 0) (l := 1) (dl := n + 1 - i) (k := 1) Try.underlying22 sz35 hW1b hW1v (by simp only [Nat.min_def]; split <;> omega) (by simp; omega) (by omega) h2, putRow_twice]
  rfl
 have hw1 : IntKind.i64.wrap ((i : Int) + 1) = (i : Int) + 1 := by rw [IntKind.wrap_i64]; omega
 have hw2 : IntKind.i64.wrap ((n : Int) + 1) = (n : Int) + 1 := by rw [IntKind.wrap_i64]; omega
 have hb1 : (0 : Int) ≤ (i : Int) + 1 := by omega
 have hb1' : (0 : Int) ≤ (n : Int) + 1 := by omega
 have hin : i ≤ n := by omega
 have htn : ((i : Int) + 1).toNat = i + 1 := by omega
 have htn' : ((n : Int) + 1).toNat = n + 1 := by omega
 have hb2 : ¬ (c = i + 1) := by omega
 have hb3 : (i : Int) ≤ (n : Int) + 1 := by omega
 have hb4 : ¬ (c = i) := by omega
 have hb5 : ¬ ((c : Int) < (n : Int) + 1) := by omega
 have mixed : Try.prog.follows .mixedOrders = true := by kernel_rfl
 go_enter Try.func69, Try.ntmps69
 go_wp2_with (simp only [hov])
 go_region_law_o (refine step_copy_runI rfl _ _ 22 22 rfl (.slice (some ⟨b, (i + 1) * 4, none⟩) (n + 1 - (i + 1)) (c - (i + 1))) (.slice (some ⟨b, i * 4, none⟩) (n + 1 - i) (c - i)) (by simp [Act.eval, Act.put]) (by simp [Act.eval, Act.put]) (hcp1 _ (c - (i + 1)) (c - i)) ?_)
 go_wp2_with (at_builtin; refine wpList_copy_runI _ rfl _ _ 22 22 rfl _ _ rfl rfl (hcp2 _ _) ?_)
 go_ret
 exact ⟨rfl, rfl⟩
theorem ti35 : ∃ j, ti Try.prog 35 = some j ∧ j.flat = true ∧ j.size = 4 ∧ j.bytes = 48 := by
 have h : (ti Try.prog 35).map (fun i => (i.flat, i.size, i.bytes)) = some (true, 4, 48) := by kernel_rfl
 cases hi : ti Try.prog 35 with
 | none => rw [hi] at h; cases h
 | some i =>
   rw [hi] at h
   simp only [Option.map_some, Option.some.injEq, Prod.mk.injEq] at h
   exact ⟨i, rfl, h.1, h.2.1, h.2.2⟩
set_option maxHeartbeats 4000000 in
set_option maxRecDepth 100000 in
theorem del_one (b n c i : Nat) (cs : Array Value) (ty : TypeId) (w : World) (hi : i < n) (hnc : n ≤ c) (hbig : n * 48 ≤ 140737488355328)
 (hb : w.heap[b]? = some (.cells cs ty (0, 0))) (hcz : c * 4 ≤ cs.size)
 (h1 : (cut cs ((i + 1) * 4) ((n - (i + 1)) * 4)).all Value.oneCell' = true) :
 Calls Try.prog 56 #[.slice (some ⟨b, 0, none⟩) n c, .int .i64 i, .int .i64 ((i : Int) + 1)] w fun e w' =>
  ∃ (zs : List Value) (d : Nat), zs.length = 4 ∧ e = .returned (.slice (some ⟨b, 0, none⟩) (n - 1) c) ∧ w' = { putRow w b (writeAt (writeAt cs (i * 4) (cut cs ((i + 1) * 4) ((n - (i + 1)) * 4))) ((n - 1) * 4) zs) ty with drawn := d } := by
 obtain ⟨j, hj, hjf, hjs, hjb⟩ := ti35
 have hlt := (Array.getElem?_eq_some_iff.1 hb).1
 have hap : ∀ (A : Addr) (sc : Nat), (n - (i + 1) = 0 ∨ A = ⟨b, (i + 1) * 4, none⟩) → ∀ ty', (Builtin.append_ #[22, 22] ty' #[.slice (some ⟨b, 0, none⟩) i c, .slice (some A) (n - (i + 1)) sc]).run Try.prog w.drew =
  .ok (.slice (some ⟨b, 0, none⟩) (n - 1) c) (putRow w.drew b (writeAt cs (i * 4) (cut cs ((i + 1) * 4) ((n - (i + 1)) * 4))) ty) := fun A sc hA ty' => by
  have h := run_appB (w := w.drew) (t := 22) (ty := ty') (o := (i + 1) * 4) (n := i) (dc := c) (l := n - (i + 1)) (c := sc) (A := A) Try.underlying22 hj hb hA (by omega) (by rw [hjs]; omega) (by rw [hjs]; omega) (by rw [hjs]; exact h1)
  rw [hjs, show i + (n - (i + 1)) = n - 1 by omega] at h
  exact h
 obtain ⟨zs, hzl, hcl⟩ := run_clearB (P := Try.prog) (w := putRow w.drew b (writeAt cs (i * 4) (cut cs ((i + 1) * 4) ((n - (i + 1)) * 4))) ty) (t := 22) (ty := 0) (b := b) (o := (n - 1) * 4) (k := 1) (c := c - (n - 1)) Try.underlying22 hj hjf (by omega) (putRow_heap_same hlt) (by simp [hjs]; omega)
 rw [hjs] at hzl
 rw [putRow_twice] at hcl
 have core : Calls Try.prog 56 #[.slice (some ⟨b, 0, none⟩) n c, .int .i64 i, .int .i64 ((i : Int) + 1)] w fun e w' =>
  e = .returned (.slice (some ⟨b, 0, none⟩) (n - 1) c) ∧ w' = { putRow w b (writeAt (writeAt cs (i * 4) (cut cs ((i + 1) * 4) ((n - (i + 1)) * 4))) ((n - 1) * 4) zs) ty with drawn := w.drawn + 1 } := by
  have mixed : Try.prog.follows .mixedOrders = true := by kernel_rfl
  have hin : i ≤ n := by omega
  have hin1 : (i : Int) + 1 ≤ (n : Int) := by omega
  have hne : ¬ ((i : Int) = (i : Int) + 1) := by omega
  have hb1 : (0 : Int) ≤ (i : Int) + 1 := by omega
  have htn : ((i : Int) + 1).toNat = i + 1 := by omega
  have hic : i ≤ c := by omega
  have hjc : i + 1 ≤ c := by omega
  have hcn : ¬ (c = n - 1) := by omega
  have hn1 : n - (n - 1) = 1 := by omega
  have hnm : n - 1 ≤ n := by omega
  have hci : ¬ (c = i) := by omega
  obtain ⟨A, hA, hA'⟩ : ∃ A : Addr, (if c = i + 1 then some (⟨b, 0, none⟩ : Addr) else some ⟨b, (i + 1) * 4, none⟩) = some A ∧ (n - (i + 1) = 0 ∨ A = ⟨b, (i + 1) * 4, none⟩) := by
   by_cases h : c = i + 1
   ·exact ⟨⟨b, 0, none⟩, by simp [h], .inl (by omega)⟩
   ·exact ⟨⟨b, (i + 1) * 4, none⟩, by simp [h], .inr rfl⟩
  have hapA := hap A (c - (i + 1)) hA'
  clear hap hA' hj hjf hjs hjb
  go_enter Try.func56, Try.ntmps56
  go_wp2_with fail
  go_region_law_o (refine step_append_runI rfl _ _ 22 22 rfl (.slice (some ⟨b, 0, none⟩) i c) (.slice (some A) (n - (i + 1)) (c - (i + 1))) (by simp [Act.eval, Act.put]) (by simp [Act.eval, Act.put, hA]) (hapA 22) ?_)
  go_wp2_with (at_builtin; refine wpList_clear_runI _ rfl _ 22 rfl _ rfl hcl ?_)
  go_ret
  exact ⟨rfl, rfl⟩
 exact core.mono fun e w' ⟨h1, h2⟩ => ⟨zs, _, by omega, h1, h2⟩
end Go.Q.S16
end

section
/- slices.Insert and slices.Delete of rows of writes: what the evaluator takes them for, they do. -/
namespace Go.Q.S16
open Go.Proofs Go.RowKit
theorem del_ok : PrimOk Try.prog 56 (delP 4 48) := by
 intro L w X ι σ n lk args us r hp hw hln hrep
 letI := L
 unfold delP at hp
 split at hp
 ·rename_i id len sz' i j
  split at hp
  ·rename_i sz'' xs hrow
   split at hp
   ·rename_i hc
    obtain ⟨rfl, rfl, hlen, hi0, hil, rfl, hlk, hbig⟩ := hc
    simp only [Option.some.injEq] at hp
    subst hp
    obtain ⟨i, rfl⟩ : ∃ k : Nat, i = (k : Int) := ⟨i.toNat, by omega⟩
    simp only [Int.toNat_natCast] at *
    have hlt : i < len := by omega
    obtain ⟨hus, hr⟩ := hrep
    obtain ⟨s, v1, v2, rfl⟩ : ∃ s v1 v2, us = #[s, v1, v2] := by
     have : us.size = 3 := hus
     exact ⟨us[0], us[1], us[2], by apply Array.ext; · simp [this]
                                    ·intro k h1 h2
                                     match k with
                                     | 0 => rfl
                                     | 1 => rfl
                                     | 2 => rfl
                                     | k + 3 => omega⟩
    have r0 := hr 0 _ _ rfl rfl
    have r1 := hr 1 _ _ rfl rfl
    have r2 := hr 2 _ _ rfl rfl
    obtain ⟨cs, ty, u, g1, g2, g3, g4, g5, g6⟩ := row_cells hw hrow (by omega)
    cases r1
    cases r2
    cases r0 with
    | ref _ _ _ _ c o cells ty' fz hid hcl ho hm hz =>
      have hc0 : c ≠ 0 := by omega
      have ho0 : o = 0 := by rcases ho with h | h; exact absurd h hc0; omega
      subst ho0
      rw [g1] at hm
      cases hm
      have hz' : c * 4 ≤ cs.size := by rcases hz with h | h; exact absurd h hc0; simpa using h
      have hk := del_one (ι id) len c i cs ty w hlt hcl (by omega) g1 hz' (cut_all fun k h1 h2 => g6 k (by omega))
      refine hk.mono fun e w' hh => ?_
      obtain ⟨zs, d, hzl, rfl, rfl⟩ := hh
      have hcutl : (cut cs ((i + 1) * 4) ((len - (i + 1)) * 4)).length = (len - (i + 1)) * 4 := cut_len (by omega)
      have hsz1 : (writeAt cs (i * 4) (cut cs ((i + 1) * 4) ((len - (i + 1)) * 4))).size = cs.size := by simp
      have hxl : (xs.take i ++ xs.drop (i + 1)).length = len - 1 := by simp; omega
      have hget : ∀ q, (xs.take i ++ xs.drop (i + 1))[q]? = if q < i then xs[q]? else xs[q + 1]? := fun q => by
       rw [List.getElem?_append]
       have : (xs.take i).length = i := by simp; omega
       rw [this]
       split
       ·rename_i h; rw [List.getElem?_take, if_pos h]
       ·rw [List.getElem?_drop]; congr 1; omega
      obtain ⟨a1, a2⟩ := set_move (lk := lk) (xs' := xs.take i ++ xs.drop (i + 1)) (cs' := writeAt (writeAt cs (i * 4) (cut cs ((i + 1) * 4) ((len - (i + 1)) * 4))) ((len - 1) * 4) zs) hw hrow hlk g1 (by simp)
       (fun q r => if q < i then u q r else u (q + 1) r) (by rw [hxl]; omega)
       (fun x hx => g3 x (by
        rcases List.mem_append.1 hx with h | h
        ·exact List.mem_of_mem_take h
        ·exact List.mem_of_mem_drop h))
       (fun q r hq hr => by
        rw [hxl] at hq
        rw [writeAt_get _ _ _ _ (by rw [hsz1, hzl]; omega), if_neg (by omega), writeAt_get _ _ _ _ (by rw [hcutl]; omega), hcutl]
        by_cases h : q < i
        ·rw [if_neg (by omega), if_pos h]
         exact g4 q r (by omega) hr
        ·rw [if_pos (by omega), if_neg h, cut_get (by omega)]
         have := g4 (q + 1) r (by omega) hr
         rw [← this]
         congr 1
         omega)
       (fun q x r e hx he => by
        rw [hget] at hx
        by_cases h : q < i
        ·rw [if_pos h] at hx; rw [if_pos h]; exact g5 _ _ _ _ hx he
        ·rw [if_neg h] at hx; rw [if_neg h]; exact g5 _ _ _ _ hx he) d
      refine ⟨_, X, setι ι n (ι id), rfl, a1, ?_, a2⟩
      have hb := putRow_heap_same (w := w) (cs := writeAt (writeAt cs (i * 4) (cut cs ((i + 1) * 4) ((len - (i + 1)) * 4))) ((len - 1) * 4) zs) (ty := ty) (Array.getElem?_eq_some_iff.1 g1).1
      have hιn : setι ι n (ι id) n = ι id := by simp [setι]
      have := Rep.ref (w := { putRow w (ι id) (writeAt (writeAt cs (i * 4) (cut cs ((i + 1) * 4) ((len - (i + 1)) * 4))) ((len - 1) * 4) zs) ty with drawn := d }) (X := X) (ι := setι ι n (ι id)) (n := n + 1) n 0 (len - 1) 4 c 0 _ ty (0, 0) (by omega) (by omega) (.inr (by omega)) (by rw [hιn]; exact hb) (.inr (by simp; omega))
      rw [hιn] at this
      exact this
   ·cases hp
  ·cases hp
 ·cases hp
end Go.Q.S16
end

section
/- slices.Insert: what the evaluator takes it for, it does. -/
namespace Go.Q.S16
open Go.Proofs Go.RowKit
theorem app_run [Link] {w : World} {X : Nat → Prop} {ι : Nat → Nat} {σ σ' : Sto} {n n' lk : Nat} {s y v : V} {us uy : Value} (hw : WF w X ι σ n) (hln : lk ≤ n) (hs : Rep w X ι n s us) (hy : Rep w X ι n y uy)
 (h : ev (fun o => match o with | .tmp 0 => s | _ => y) σ n lk (.append 4 48 (.tmp 0) (.tmp 1)) = some (v, σ', n')) :
 ∃ u w', (∀ ty, (Builtin.append_ #[22, 22] ty #[us, uy]).run Try.prog w = .ok u w') ∧ ∃ X' ι', WF w' X' ι' σ' n' ∧ Rep w' X' ι' n' v u ∧ Ext w w' X X' ι ι' σ σ' n n' lk := by
 obtain ⟨j, hj, hjf, hjs, hjb⟩ := ti35
 have g := ev_append (P := Try.prog) (ρ := fun o => match o with | .tmp 0 => us | _ => uy) (ρ' := fun o => match o with | .tmp 0 => s | _ => y) (ty := 0) (t := 22) (t' := 22) (e := 35) (e' := 35) (x := .tmp 0) (y := .tmp 1) (x' := .tmp 0) (y' := .tmp 1)
  hw hln hs hy Try.underlying22 Try.underlying22 hj hjf (by rw [hjs, hjb]; exact h)
 obtain ⟨w', X', ι', u, hr, hrep, hw', he⟩ := g
 refine ⟨u, w', fun ty => ?_, X', ι', hw', hrep, he⟩
 change (Builtin.append_ #[22, 22] 0 #[us, uy]).run Try.prog w = .ok u w'
 simp only [Sem.run_bind] at hr
 cases hq : (Builtin.append_ #[22, 22] 0 #[us, uy]).run Try.prog w with
 | ok a w1 =>
   rw [hq] at hr
   simp at hr
   obtain ⟨rfl, rfl⟩ := hr
   rfl
 | halt h1 h2 => rw [hq] at hr; simp at hr
theorem ins_ok : PrimOk Try.prog 69 (insP 4 48) := by
 intro L w X ι σ n lk args us r hp hw hln hrep
 letI := L
 unfold insP at hp
 split at hp
 ·rename_i s i id2 sz2
  split at hp
  ·rename_i sz3 y hrow2
   split at hp
   ·rename_i hc
    obtain ⟨rfl, rfl, -⟩ := hc
    obtain ⟨hus, hr⟩ := hrep
    obtain ⟨u0, u1, u2, rfl⟩ : ∃ s v1 v2, us = #[s, v1, v2] := by
     have : us.size = 3 := hus
     exact ⟨us[0], us[1], us[2], by apply Array.ext; · simp [this]
                                    ·intro k h1 h2
                                     match k with
                                     | 0 => rfl
                                     | 1 => rfl
                                     | 2 => rfl
                                     | k + 3 => omega⟩
    have r0 := hr 0 _ _ rfl rfl
    have r1 := hr 1 _ _ rfl rfl
    have r2 := hr 2 _ _ rfl rfl
    obtain ⟨vs, tv, uv, k1, k2, k3, k4, k5, k6⟩ := row_cells hw hrow2 (by omega)
    cases r1
    have r2' := r2
    cases r2 with
    | ref _ _ _ _ c2 o2 cells2 ty2' fz2 hid2 hcl2 ho2 hm2 hz2 =>
    have ho20 : o2 = 0 := by rcases ho2 with h | h; omega; omega
    subst ho20
    have hvz : 4 ≤ vs.size := by simpa using k2
    have hel : elems σ 4 (.ref id2 0 1 4) = some [y] := by simp [elems, hrow2]
    split at hp
    ·-- nothing there
     split at hp
     ·rename_i hi
      subst hi
      simp only [Option.some.injEq] at hp
      subst hp
      cases r0
      obtain ⟨u, w', g1, X', ι', g2, g3, g4⟩ := app_run (lk := lk) (s := .nilS) (y := .ref id2 0 1 4) (v := .ref n 0 1 4) (σ' := upd σ n (some (.row 4 [y]))) (n' := n + 1) hw hln .nilS r2' (by
       simp only [ev, hel]
       simp [LIM])
      have hk := ins_end none 0 0 (ι id2) c2 w w' u g1
      refine hk.mono fun e w1 hh => ?_
      obtain ⟨rfl, rfl⟩ := hh
      exact ⟨u, X', ι', rfl, g2, g3, g4⟩
     ·cases hp
    ·rename_i id len sz'
     split at hp
     ·rename_i sz'' xs hrow
      split at hp
      ·rename_i hc
       obtain ⟨rfl, rfl, hlen, hi0, hil, hlk, hne, hbig⟩ := hc
       simp only [Option.some.injEq] at hp
       subst hp
       obtain ⟨i, rfl⟩ : ∃ k : Nat, i = (k : Int) := ⟨i.toNat, by omega⟩
       simp only [Int.toNat_natCast] at *
       by_cases hie : i = len
       ·-- at the end
        subst hie
        have r0' := r0
        cases r0 with
        | ref _ _ _ _ c o cells ty' fz hid hcl ho hm hz =>
        have htk : xs.take i ++ y :: xs.drop i = xs.take i ++ [y] := by rw [hlen, List.drop_length]
        obtain ⟨u, w', g1, X', ι', g2, g3, g4⟩ := app_run (lk := lk) (s := .ref id 0 i 4) (y := .ref id2 0 1 4) (v := .ref n 0 (i + 1) 4) (σ' := upd (upd σ id none) n (some (.row 4 (xs.take i ++ y :: xs.drop i)))) (n' := n + 1) hw hln r0' r2' (by
         simp only [ev, hel, hrow, htk]
         rw [if_pos ⟨trivial, trivial, trivial, by omega, hlk, by simp only [List.length_singleton]; unfold LIM; omega⟩]
         rfl)
        have hk := ins_end (some ⟨ι id, o, none⟩) i c (ι id2) c2 w w' u g1
        refine hk.mono fun e w1 hh => ?_
        obtain ⟨rfl, rfl⟩ := hh
        exact ⟨u, X', ι', rfl, g2, g3, g4⟩
       ·obtain ⟨cs, ty, u, g1, g2, g3, g4, g5, g6⟩ := row_cells hw hrow (by omega)
        cases r0 with
        | ref _ _ _ _ c o cells ty' fz hid hcl ho hm hz =>
        have hc0 : c ≠ 0 := by omega
        have ho0 : o = 0 := by rcases ho with h | h; exact absurd h hc0; omega
        subst ho0
        rw [g1] at hm
        cases hm
        have hz' : c * 4 ≤ cs.size := by rcases hz with h | h; exact absurd h hc0; simpa using h
        have hlt : i < len := by omega
        have hbb : ι id2 ≠ ι id := fun e => hne (hw.inj id2 id (by rw [hrow2]; simp) (by rw [hrow]; simp) e).symm
        have hc1 : (cut cs (i * 4) ((len - i) * 4)).all Value.oneCell' = true := cut_all fun k h1 h2 => g6 k (by omega)
        have hc2 : (cut vs 0 4).all Value.oneCell' = true := cut_all fun k h1 h2 => k6 k (by simp; omega)
        have hcutl : (cut cs (i * 4) ((len - i) * 4)).length = (len - i) * 4 := cut_len (by omega)
        have hcutv : (cut vs 0 4).length = 4 := cut_len (by omega)
        have hxl : (xs.take i ++ y :: xs.drop i).length = len + 1 := by simp; omega
        have hget : ∀ q, (xs.take i ++ y :: xs.drop i)[q]? = if q < i then xs[q]? else if q = i then some y else xs[q - 1]? := fun q => by
         rw [List.getElem?_append]
         have : (xs.take i).length = i := by simp; omega
         rw [this]
         split
         ·rename_i h; rw [List.getElem?_take, if_pos h]
         ·by_cases h : q = i
          ·subst h; simp
          ·rw [if_neg h]
           obtain ⟨p, hp⟩ : ∃ p, q - i = p + 1 := ⟨q - i - 1, by omega⟩
           rw [hp, List.getElem?_cons_succ, List.getElem?_drop]
           congr 1; omega
        have hsz : ∀ x ∈ xs.take i ++ y :: xs.drop i, x.cells.length = 4 ∧ x.cells.all V.one = true := fun x hx => by
         rcases List.mem_append.1 hx with h | h
         ·exact g3 x (List.mem_of_mem_take h)
         ·rcases List.mem_cons.1 h with rfl | h
          ·exact k3 _ (by simp)
          ·exact g3 x (List.mem_of_mem_drop h)
        have hrp : ∀ (q : Nat) (x : V) (r : Nat) (e : V), (xs.take i ++ y :: xs.drop i)[q]? = some x → x.cells[r]? = some e → Rep w X ι n e ((fun q r => if q < i then u q r else if q = i then uv 0 r else u (q - 1) r) q r) := fun q x r e hx he => by
         rw [hget] at hx
         by_cases h : q < i
         ·rw [if_pos h] at hx; simp only [if_pos h]; exact g5 _ _ _ _ hx he
         ·rw [if_neg h] at hx; simp only [if_neg h]
          by_cases h' : q = i
          ·rw [if_pos h'] at hx; simp only [if_pos h']
           cases hx
           exact k5 0 _ _ _ rfl he
          ·rw [if_neg h'] at hx; simp only [if_neg h']; exact g5 _ _ _ _ hx he
        by_cases hroom : len + 1 ≤ c
        ·have hk := ins_shift (ι id) len c i (ι id2) c2 cs vs ty tv w hlt hroom (by omega) hbb g1 hz' k1 hvz hc1 hc2
         refine hk.mono fun e w' hh => ?_
         obtain ⟨rfl, rfl⟩ := hh
         have hsz1 : (writeAt cs ((i + 1) * 4) (cut cs (i * 4) ((len - i) * 4))).size = cs.size := by simp
         obtain ⟨a1, a2⟩ := set_move (lk := lk) (xs' := xs.take i ++ y :: xs.drop i) (cs' := writeAt (writeAt cs ((i + 1) * 4) (cut cs (i * 4) ((len - i) * 4))) (i * 4) (cut vs 0 4)) hw hrow hlk g1 (by simp)
          (fun q r => if q < i then u q r else if q = i then uv 0 r else u (q - 1) r) (by rw [hxl]; omega) hsz
          (fun q r hq hr4 => by
           rw [hxl] at hq
           rw [writeAt_get _ _ _ _ (by rw [hsz1, hcutv]; omega), hcutv]
           by_cases h : q < i
           ·rw [if_neg (by omega), writeAt_get _ _ _ _ (by rw [hcutl]; omega), hcutl, if_neg (by omega)]
            simp only [if_pos h]
            exact g4 q r (by omega) hr4
           ·by_cases h' : q = i
            ·subst h'
             rw [if_pos (by omega), cut_get (by omega)]
             simp only [h, if_false, if_true]
             have := k4 0 r (by simp) hr4
             rw [← this]
             congr 1
             omega
            ·rw [if_neg (by omega), writeAt_get _ _ _ _ (by rw [hcutl]; omega), hcutl, if_pos (by omega), cut_get (by omega)]
             simp only [if_neg h, if_neg h']
             have := g4 (q - 1) r (by omega) hr4
             rw [← this]
             congr 1
             omega)
          hrp w.drew.drawn
         refine ⟨_, X, setι ι n (ι id), rfl, a1, ?_, a2⟩
         have hb := putRow_heap_same (w := w) (cs := writeAt (writeAt cs ((i + 1) * 4) (cut cs (i * 4) ((len - i) * 4))) (i * 4) (cut vs 0 4)) (ty := ty) (Array.getElem?_eq_some_iff.1 g1).1
         have hιn : setι ι n (ι id) n = ι id := by simp [setι]
         have := Rep.ref (w := putRow w.drew (ι id) (writeAt (writeAt cs ((i + 1) * 4) (cut cs (i * 4) ((len - i) * 4))) (i * 4) (cut vs 0 4)) ty) (X := X) (ι := setι ι n (ι id)) (n := n + 1) n 0 (len + 1) 4 c 0 _ ty (0, 0) (by omega) (by omega) (.inr (by omega)) (by rw [hιn]; exact hb) (.inr (by simp; omega))
         rw [hιn] at this
         exact this
        ·have hk := ins_grow (ι id) len c i (ι id2) c2 cs vs ty tv w hlt hcl (by omega) (by omega) hbb g1 hz' k1 hvz hc1 hc2
         refine hk.mono fun e w' hh => ?_
         obtain ⟨G, ROW, d, hG, hRs, hR, rfl, rfl⟩ := hh
         rw [putRow_alloc]
         have hsz1 : (writeAt ROW (i * 4) (cut vs 0 4)).size = ROW.size := by simp
         obtain ⟨a1, a2⟩ := new_drop (lk := lk) (id := id) (xs' := xs.take i ++ y :: xs.drop i) (cs' := writeAt (writeAt ROW (i * 4) (cut vs 0 4)) ((i + 1) * 4) (cut cs (i * 4) ((len - i) * 4))) (ty := 35) hw hln hlk
          (fun q r => if q < i then u q r else if q = i then uv 0 r else u (q - 1) r) (by rw [hxl]; simp; omega) hsz
          (fun q r hq hr4 => by
           rw [hxl] at hq
           rw [writeAt_get _ _ _ _ (by rw [hsz1, hcutl]; omega), hcutl]
           by_cases h : q < i
           ·rw [if_neg (by omega), writeAt_get _ _ _ _ (by rw [hcutv]; omega), hcutv, if_neg (by omega), hR _ (by omega)]
            simp only [if_pos h]
            exact g4 q r (by omega) hr4
           ·by_cases h' : q = i
            ·subst h'
             rw [if_neg (by omega), writeAt_get _ _ _ _ (by rw [hcutv]; omega), hcutv, if_pos (by omega), cut_get (by omega)]
             simp only [h, if_false, if_true]
             have := k4 0 r (by simp) hr4
             rw [← this]
             congr 1
             omega
            ·rw [if_pos (by omega), cut_get (by omega)]
             simp only [if_neg h, if_neg h']
             have := g4 (q - 1) r (by omega) hr4
             rw [← this]
             congr 1
             omega)
          hrp d
         refine ⟨_, _, setι ι n w.heap.size, rfl, a1, ?_, a2⟩
         have hιn : setι ι n w.heap.size n = w.heap.size := by simp [setι]
         have := Rep.ref (w := { w.alloc (.cells (writeAt (writeAt ROW (i * 4) (cut vs 0 4)) ((i + 1) * 4) (cut cs (i * 4) ((len - i) * 4))) 35) with drawn := d }) (X := addX X w.heap.size) (ι := setι ι n w.heap.size) (n := n + 1) n 0 (len + 1) 4 G 0
          (writeAt (writeAt ROW (i * 4) (cut vs 0 4)) ((i + 1) * 4) (cut cs (i * 4) ((len - i) * 4))) 35 (0, 0) (by omega) (by omega) (.inr (by omega)) (by rw [hιn]; show (w.heap.push _)[w.heap.size]? = _; simp) (.inr (by simp; omega))
         rw [hιn] at this
         exact this
      ·cases hp
     ·cases hp
    ·cases hp
   ·cases hp
  ·cases hp
 ·cases hp
end Go.Q.S16
end

section
/- The table is the program's. -/
namespace Go.Q.SK
open Go.Proofs
def Has (f : Nat) (fn : Fn) : Prop := ∃ F, Try.prog.funcs[f]? = some F ∧ cFunc Try.prog (Go.Q.ownB T) F = some fn ∧ (F.name == "runtime.NumGoroutine") = false
theorem h8 : Has 8 g8 := ⟨Try.f8, Try.func8, by kernel_rfl, by kernel_rfl⟩
theorem h15 : Has 15 g15 := ⟨Try.f15, Try.func15, by kernel_rfl, by kernel_rfl⟩
theorem h21 : Has 21 g21 := ⟨Try.f21, Try.func21, by kernel_rfl, by kernel_rfl⟩
theorem h25 : Has 25 g25 := ⟨Try.f25, Try.func25, by kernel_rfl, by kernel_rfl⟩
theorem h32 : Has 32 g32 := ⟨Try.f32, Try.func32, by kernel_rfl, by kernel_rfl⟩
theorem h33 : Has 33 g33 := ⟨Try.f33, Try.func33, by kernel_rfl, by kernel_rfl⟩
theorem h37 : Has 37 g37 := ⟨Try.f37, Try.func37, by kernel_rfl, by kernel_rfl⟩
theorem h38 : Has 38 g38 := ⟨Try.f38, Try.func38, by kernel_rfl, by kernel_rfl⟩
theorem h39 : Has 39 g39 := ⟨Try.f39, Try.func39, by kernel_rfl, by kernel_rfl⟩
theorem h40 : Has 40 g40 := ⟨Try.f40, Try.func40, by kernel_rfl, by kernel_rfl⟩
theorem h41 : Has 41 g41 := ⟨Try.f41, Try.func41, by kernel_rfl, by kernel_rfl⟩
theorem h42 : Has 42 g42 := ⟨Try.f42, Try.func42, by kernel_rfl, by kernel_rfl⟩
theorem h43 : Has 43 g43 := ⟨Try.f43, Try.func43, by kernel_rfl, by kernel_rfl⟩
theorem h46 : Has 46 g46 := ⟨Try.f46, Try.func46, by kernel_rfl, by kernel_rfl⟩
theorem h47 : Has 47 g47 := ⟨Try.f47, Try.func47, by kernel_rfl, by kernel_rfl⟩
theorem h49 : Has 49 g49 := ⟨Try.f49, Try.func49, by kernel_rfl, by kernel_rfl⟩
theorem h52 : Has 52 g52 := ⟨Try.f52, Try.func52, by kernel_rfl, by kernel_rfl⟩
theorem h53 : Has 53 g53 := ⟨Try.f53, Try.func53, by kernel_rfl, by kernel_rfl⟩
theorem h54 : Has 54 g54 := ⟨Try.f54, Try.func54, by kernel_rfl, by kernel_rfl⟩
theorem h55 : Has 55 g55 := ⟨Try.f55, Try.func55, by kernel_rfl, by kernel_rfl⟩
theorem h59 : Has 59 g59 := ⟨Try.f59, Try.func59, by kernel_rfl, by kernel_rfl⟩
theorem h60 : Has 60 g60 := ⟨Try.f60, Try.func60, by kernel_rfl, by kernel_rfl⟩
theorem h61 : Has 61 g61 := ⟨Try.f61, Try.func61, by kernel_rfl, by kernel_rfl⟩
theorem h62 : Has 62 g62 := ⟨Try.f62, Try.func62, by kernel_rfl, by kernel_rfl⟩
theorem h63 : Has 63 g63 := ⟨Try.f63, Try.func63, by kernel_rfl, by kernel_rfl⟩
theorem h64 : Has 64 g64 := ⟨Try.f64, Try.func64, by kernel_rfl, by kernel_rfl⟩
theorem h65 : Has 65 g65 := ⟨Try.f65, Try.func65, by kernel_rfl, by kernel_rfl⟩
theorem h66 : Has 66 g66 := ⟨Try.f66, Try.func66, by kernel_rfl, by kernel_rfl⟩
theorem h68 : Has 68 g68 := ⟨Try.f68, Try.func68, by kernel_rfl, by kernel_rfl⟩
theorem h70 : Has 70 g70 := ⟨Try.f70, Try.func70, by kernel_rfl, by kernel_rfl⟩
theorem h71 : Has 71 g71 := ⟨Try.f71, Try.func71, by kernel_rfl, by kernel_rfl⟩
theorem h72 : Has 72 g72 := ⟨Try.f72, Try.func72, by kernel_rfl, by kernel_rfl⟩
theorem h73 : Has 73 g73 := ⟨Try.f73, Try.func73, by kernel_rfl, by kernel_rfl⟩
theorem h74 : Has 74 g74 := ⟨Try.f74, Try.func74, by kernel_rfl, by kernel_rfl⟩
theorem h75 : Has 75 g75 := ⟨Try.f75, Try.func75, by kernel_rfl, by kernel_rfl⟩
theorem h76 : Has 76 g76 := ⟨Try.f76, Try.func76, by kernel_rfl, by kernel_rfl⟩
theorem h77 : Has 77 g77 := ⟨Try.f77, Try.func77, by kernel_rfl, by kernel_rfl⟩
theorem h78 : Has 78 g78 := ⟨Try.f78, Try.func78, by kernel_rfl, by kernel_rfl⟩
theorem h79 : Has 79 g79 := ⟨Try.f79, Try.func79, by kernel_rfl, by kernel_rfl⟩
theorem h80 : Has 80 g80 := ⟨Try.f80, Try.func80, by kernel_rfl, by kernel_rfl⟩
theorem h81 : Has 81 g81 := ⟨Try.f81, Try.func81, by kernel_rfl, by kernel_rfl⟩
theorem h83 : Has 83 g83 := ⟨Try.f83, Try.func83, by kernel_rfl, by kernel_rfl⟩
theorem h84 : Has 84 g84 := ⟨Try.f84, Try.func84, by kernel_rfl, by kernel_rfl⟩
theorem h85 : Has 85 g85 := ⟨Try.f85, Try.func85, by kernel_rfl, by kernel_rfl⟩
theorem h86 : Has 86 g86 := ⟨Try.f86, Try.func86, by kernel_rfl, by kernel_rfl⟩
theorem h87 : Has 87 g87 := ⟨Try.f87, Try.func87, by kernel_rfl, by kernel_rfl⟩
theorem h88 : Has 88 g88 := ⟨Try.f88, Try.func88, by kernel_rfl, by kernel_rfl⟩
theorem h89 : Has 89 g89 := ⟨Try.f89, Try.func89, by kernel_rfl, by kernel_rfl⟩
theorem h90 : Has 90 g90 := ⟨Try.f90, Try.func90, by kernel_rfl, by kernel_rfl⟩
theorem h91 : Has 91 g91 := ⟨Try.f91, Try.func91, by kernel_rfl, by kernel_rfl⟩
theorem tabOf1 : ∀ f fn, T.fn f = some fn → ∃ F, Try.prog.funcs[f]? = some F ∧ cFunc Try.prog (Go.Q.ownB T) F = some fn ∧ (F.name == "runtime.NumGoroutine") = false := by
 intro f fn h
 simp only [T] at h
 unfold fnOf at h
 split at h
 all_goals first | (cases h; done) | skip
 all_goals (simp only [Option.some.injEq] at h; subst h)
 ·exact h8
 ·exact h15
 ·exact h21
 ·exact h25
 ·exact h32
 ·exact h33
 ·exact h37
 ·exact h38
 ·exact h39
 ·exact h40
 ·exact h41
 ·exact h42
 ·exact h43
 ·exact h46
 ·exact h47
 ·exact h49
 ·exact h52
 ·exact h53
 ·exact h54
 ·exact h55
 ·exact h59
 ·exact h60
 ·exact h61
 ·exact h62
 ·exact h63
 ·exact h64
 ·exact h65
 ·exact h66
 ·exact h68
 ·exact h70
 ·exact h71
 ·exact h72
 ·exact h73
 ·exact h74
 ·exact h75
 ·exact h76
 ·exact h77
 ·exact h78
 ·exact h79
 ·exact h80
 ·exact h81
 ·exact h83
 ·exact h84
 ·exact h85
 ·exact h86
 ·exact h87
 ·exact h88
 ·exact h89
 ·exact h90
 ·exact h91
theorem tabOf2 : ∀ f p, T.prim f = some p → Ent Try.prog f ∧ PrimOk Try.prog f p ∧ PrimSays p := by
 intro f p h
 simp only [T] at h
 unfold primOf at h
 split at h
 all_goals first | (cases h; done) | skip
 all_goals (simp only [Option.some.injEq] at h; subst h)
 ·exact ⟨⟨Try.f69, Try.func69, by kernel_rfl, by kernel_rfl⟩, S16.ins_ok, ins_says _ _⟩
 ·exact ⟨⟨Try.f56, Try.func56, by kernel_rfl, by kernel_rfl⟩, S16.del_ok, del_says _ _⟩
theorem tabOf : TabOf Try.prog T := ⟨tabOf1, tabOf2⟩
theorem mixed : Try.prog.follows .mixedOrders = true := by kernel_rfl
end Go.Q.SK
end

section
/- The layer does something. -/
namespace Go.Q.SK
open Go.Q
def isTrue' : Option Out → Bool
 | some (.val (.bool true)) => true
 | _ => false
theorem isTrue_eq {o : Option Out} (h : isTrue' o = true) : o = some (.val (.bool true)) := by
 unfold isTrue' at h
 split at h
 ·rfl
 ·cases h
theorem r8 : res T 8 [] = some (.bool true) := by
 have h : isTrue' (exJob T 150 (.pure 8 [])) = true := by decide +kernel
 exact run_res (exJob_sound 150 _ _ (isTrue_eq h))
theorem f8 (fs : Bool) (σ : Sto) (n lk : Nat) : callE T fs 8 [] σ n lk = some (.bool true, σ, n) := callE_tr (by decide) r8 rfl rfl fs σ n lk
end Go.Q.SK
end

section
/- The layer does something: known of the machine. -/
namespace Go.Q.SK
open Go.Q
theorem yes8 : PrimOk Go.Proofs.Try.prog 8 yesP := yes_ok mixed tabOf (by decide) (res_run r8)
end Go.Q.SK
end

section
/- The table is the program's. -/
namespace Go.Q.SU
open Go.Proofs
def Has (f : Nat) (fn : Fn) : Prop := ∃ F, Try.prog.funcs[f]? = some F ∧ cFunc Try.prog (Go.Q.ownB T) F = some fn ∧ (F.name == "runtime.NumGoroutine") = false
theorem h6 : Has 6 g6 := ⟨Try.f6, Try.func6, by kernel_rfl, by kernel_rfl⟩
theorem h11 : Has 11 g11 := ⟨Try.f11, Try.func11, by kernel_rfl, by kernel_rfl⟩
theorem h14 : Has 14 g14 := ⟨Try.f14, Try.func14, by kernel_rfl, by kernel_rfl⟩
theorem h15 : Has 15 g15 := ⟨Try.f15, Try.func15, by kernel_rfl, by kernel_rfl⟩
theorem h21 : Has 21 g21 := ⟨Try.f21, Try.func21, by kernel_rfl, by kernel_rfl⟩
theorem h22 : Has 22 g22 := ⟨Try.f22, Try.func22, by kernel_rfl, by kernel_rfl⟩
theorem h23 : Has 23 g23 := ⟨Try.f23, Try.func23, by kernel_rfl, by kernel_rfl⟩
theorem h24 : Has 24 g24 := ⟨Try.f24, Try.func24, by kernel_rfl, by kernel_rfl⟩
theorem h25 : Has 25 g25 := ⟨Try.f25, Try.func25, by kernel_rfl, by kernel_rfl⟩
theorem h26 : Has 26 g26 := ⟨Try.f26, Try.func26, by kernel_rfl, by kernel_rfl⟩
theorem h27 : Has 27 g27 := ⟨Try.f27, Try.func27, by kernel_rfl, by kernel_rfl⟩
theorem h28 : Has 28 g28 := ⟨Try.f28, Try.func28, by kernel_rfl, by kernel_rfl⟩
theorem h32 : Has 32 g32 := ⟨Try.f32, Try.func32, by kernel_rfl, by kernel_rfl⟩
theorem h33 : Has 33 g33 := ⟨Try.f33, Try.func33, by kernel_rfl, by kernel_rfl⟩
theorem h37 : Has 37 g37 := ⟨Try.f37, Try.func37, by kernel_rfl, by kernel_rfl⟩
theorem h38 : Has 38 g38 := ⟨Try.f38, Try.func38, by kernel_rfl, by kernel_rfl⟩
theorem h39 : Has 39 g39 := ⟨Try.f39, Try.func39, by kernel_rfl, by kernel_rfl⟩
theorem h40 : Has 40 g40 := ⟨Try.f40, Try.func40, by kernel_rfl, by kernel_rfl⟩
theorem h41 : Has 41 g41 := ⟨Try.f41, Try.func41, by kernel_rfl, by kernel_rfl⟩
theorem h42 : Has 42 g42 := ⟨Try.f42, Try.func42, by kernel_rfl, by kernel_rfl⟩
theorem h43 : Has 43 g43 := ⟨Try.f43, Try.func43, by kernel_rfl, by kernel_rfl⟩
theorem h46 : Has 46 g46 := ⟨Try.f46, Try.func46, by kernel_rfl, by kernel_rfl⟩
theorem h47 : Has 47 g47 := ⟨Try.f47, Try.func47, by kernel_rfl, by kernel_rfl⟩
theorem h48 : Has 48 g48 := ⟨Try.f48, Try.func48, by kernel_rfl, by kernel_rfl⟩
theorem h49 : Has 49 g49 := ⟨Try.f49, Try.func49, by kernel_rfl, by kernel_rfl⟩
theorem h52 : Has 52 g52 := ⟨Try.f52, Try.func52, by kernel_rfl, by kernel_rfl⟩
theorem h53 : Has 53 g53 := ⟨Try.f53, Try.func53, by kernel_rfl, by kernel_rfl⟩
theorem h54 : Has 54 g54 := ⟨Try.f54, Try.func54, by kernel_rfl, by kernel_rfl⟩
theorem h55 : Has 55 g55 := ⟨Try.f55, Try.func55, by kernel_rfl, by kernel_rfl⟩
theorem h59 : Has 59 g59 := ⟨Try.f59, Try.func59, by kernel_rfl, by kernel_rfl⟩
theorem h60 : Has 60 g60 := ⟨Try.f60, Try.func60, by kernel_rfl, by kernel_rfl⟩
theorem h61 : Has 61 g61 := ⟨Try.f61, Try.func61, by kernel_rfl, by kernel_rfl⟩
theorem h62 : Has 62 g62 := ⟨Try.f62, Try.func62, by kernel_rfl, by kernel_rfl⟩
theorem h63 : Has 63 g63 := ⟨Try.f63, Try.func63, by kernel_rfl, by kernel_rfl⟩
theorem h64 : Has 64 g64 := ⟨Try.f64, Try.func64, by kernel_rfl, by kernel_rfl⟩
theorem h65 : Has 65 g65 := ⟨Try.f65, Try.func65, by kernel_rfl, by kernel_rfl⟩
theorem h66 : Has 66 g66 := ⟨Try.f66, Try.func66, by kernel_rfl, by kernel_rfl⟩
theorem h67 : Has 67 g67 := ⟨Try.f67, Try.func67, by kernel_rfl, by kernel_rfl⟩
theorem h68 : Has 68 g68 := ⟨Try.f68, Try.func68, by kernel_rfl, by kernel_rfl⟩
theorem h70 : Has 70 g70 := ⟨Try.f70, Try.func70, by kernel_rfl, by kernel_rfl⟩
theorem h71 : Has 71 g71 := ⟨Try.f71, Try.func71, by kernel_rfl, by kernel_rfl⟩
theorem h72 : Has 72 g72 := ⟨Try.f72, Try.func72, by kernel_rfl, by kernel_rfl⟩
theorem h73 : Has 73 g73 := ⟨Try.f73, Try.func73, by kernel_rfl, by kernel_rfl⟩
theorem h74 : Has 74 g74 := ⟨Try.f74, Try.func74, by kernel_rfl, by kernel_rfl⟩
theorem h75 : Has 75 g75 := ⟨Try.f75, Try.func75, by kernel_rfl, by kernel_rfl⟩
theorem h76 : Has 76 g76 := ⟨Try.f76, Try.func76, by kernel_rfl, by kernel_rfl⟩
theorem h77 : Has 77 g77 := ⟨Try.f77, Try.func77, by kernel_rfl, by kernel_rfl⟩
theorem h78 : Has 78 g78 := ⟨Try.f78, Try.func78, by kernel_rfl, by kernel_rfl⟩
theorem h79 : Has 79 g79 := ⟨Try.f79, Try.func79, by kernel_rfl, by kernel_rfl⟩
theorem h80 : Has 80 g80 := ⟨Try.f80, Try.func80, by kernel_rfl, by kernel_rfl⟩
theorem h81 : Has 81 g81 := ⟨Try.f81, Try.func81, by kernel_rfl, by kernel_rfl⟩
theorem h84 : Has 84 g84 := ⟨Try.f84, Try.func84, by kernel_rfl, by kernel_rfl⟩
theorem h85 : Has 85 g85 := ⟨Try.f85, Try.func85, by kernel_rfl, by kernel_rfl⟩
theorem h86 : Has 86 g86 := ⟨Try.f86, Try.func86, by kernel_rfl, by kernel_rfl⟩
theorem h87 : Has 87 g87 := ⟨Try.f87, Try.func87, by kernel_rfl, by kernel_rfl⟩
theorem h88 : Has 88 g88 := ⟨Try.f88, Try.func88, by kernel_rfl, by kernel_rfl⟩
theorem h90 : Has 90 g90 := ⟨Try.f90, Try.func90, by kernel_rfl, by kernel_rfl⟩
theorem tabOf1 : ∀ f fn, T.fn f = some fn → ∃ F, Try.prog.funcs[f]? = some F ∧ cFunc Try.prog (Go.Q.ownB T) F = some fn ∧ (F.name == "runtime.NumGoroutine") = false := by
 intro f fn h
 simp only [T] at h
 unfold fnOf at h
 split at h
 all_goals first | (cases h; done) | skip
 all_goals (simp only [Option.some.injEq] at h; subst h)
 ·exact h6
 ·exact h11
 ·exact h14
 ·exact h15
 ·exact h21
 ·exact h22
 ·exact h23
 ·exact h24
 ·exact h25
 ·exact h26
 ·exact h27
 ·exact h28
 ·exact h32
 ·exact h33
 ·exact h37
 ·exact h38
 ·exact h39
 ·exact h40
 ·exact h41
 ·exact h42
 ·exact h43
 ·exact h46
 ·exact h47
 ·exact h48
 ·exact h49
 ·exact h52
 ·exact h53
 ·exact h54
 ·exact h55
 ·exact h59
 ·exact h60
 ·exact h61
 ·exact h62
 ·exact h63
 ·exact h64
 ·exact h65
 ·exact h66
 ·exact h67
 ·exact h68
 ·exact h70
 ·exact h71
 ·exact h72
 ·exact h73
 ·exact h74
 ·exact h75
 ·exact h76
 ·exact h77
 ·exact h78
 ·exact h79
 ·exact h80
 ·exact h81
 ·exact h84
 ·exact h85
 ·exact h86
 ·exact h87
 ·exact h88
 ·exact h90
theorem tabOf2 : ∀ f p, T.prim f = some p → Ent Try.prog f ∧ PrimOk Try.prog f p ∧ PrimSays p := by
 intro f p h
 simp only [T] at h
 unfold primOf at h
 split at h
 all_goals first | (cases h; done) | skip
 all_goals (simp only [Option.some.injEq] at h; subst h)
 ·exact ⟨⟨Try.f69, Try.func69, by kernel_rfl, by kernel_rfl⟩, S16.ins_ok, ins_says _ _⟩
 ·exact ⟨⟨Try.f56, Try.func56, by kernel_rfl, by kernel_rfl⟩, S16.del_ok, del_says _ _⟩
 ·exact ⟨⟨Try.f8, Try.func8, by kernel_rfl, by kernel_rfl⟩, SK.yes8, yes_says 0 0⟩
theorem tabOf : TabOf Try.prog T := ⟨tabOf1, tabOf2⟩
theorem mixed : Try.prog.follows .mixedOrders = true := by kernel_rfl
end Go.Q.SU
end
