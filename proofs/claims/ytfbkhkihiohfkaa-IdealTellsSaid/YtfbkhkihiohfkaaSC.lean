/- ideal.rows: the rows at a time, sorted. -/
import Derived.Test.YtfbkhkihiohfkaaSB
import Derived.Test.YtfbkhkihiohfkaaProg
import Derived.KernelRfl
section
set_option linter.unusedSimpArgs false
set_option linter.unusedVariables false
namespace Go.Q.SB
open Go.Q Go.Sort
open Nat renaming reduceEqDiff → n1w, reduceAdd → n2w, reduceSub → n3w, reduceLeDiff → n4w, reduceLT → n5w, reduceMul → n6w
open Int renaming reduceBNe → i1w, reduceBEq → i2w, reduceLT → i3w, reduceLE → i4w, reduceGT → i5w
theorem nowR_asc (l : List Fa) (c t : Int) : Asc (nowR l c t) := by
  have key : ∀ (l : List Fa) (R : List Rw), Asc R → Asc (l.foldl (nowStep c t) R) := by
    intro l
    induction l with
    | nil => intro R h; exact h
    | cons f l ih =>
      intro R h
      refine ih _ ?_
      unfold nowStep ovStep
      split
      · split
        · exact asc_delR h _
        · exact asc_putR h _
      · exact h
  exact key l [] List.Pairwise.nil
theorem nowR_len (l : List Fa) (c t : Int) : (nowR l c t).length ≤ l.length := by
  have key : ∀ (l : List Fa) (R : List Rw), (l.foldl (nowStep c t) R).length ≤ R.length + l.length := by
    intro l
    induction l with
    | nil => intro R; simp
    | cons f l ih =>
      intro R
      have h1 := ih (nowStep c t R f)
      have h2 : (nowStep c t R f).length ≤ R.length + 1 := by
        unfold nowStep ovStep
        split
        · split
          · have := delR_len R f.w.id; omega
          · exact putR_len _ _
        · omega
      simp only [List.foldl_cons, List.length_cons]; omega
  have := key l []
  unfold nowR
  simpa using this
theorem nowR_all {P : Vc → Prop} {l : List Fa} (h : ∀ f ∈ l, P f.w.v) (c t : Int) : ∀ r ∈ nowR l c t, P r.v := by
  have key : ∀ (l : List Fa) (R : List Rw), (∀ f ∈ l, P f.w.v) → (∀ r ∈ R, P r.v) → ∀ r ∈ l.foldl (nowStep c t) R, P r.v := by
    intro l
    induction l with
    | nil => intro R _ h; exact h
    | cons f l ih =>
      intro R h1 h2
      refine ih _ (fun g hg => h1 g (List.mem_cons_of_mem _ hg)) ?_
      unfold nowStep ovStep
      split
      · split
        · intro r hr; exact h2 r (mem_delR.1 hr).1
        · intro r hr
          rcases mem_putR.1 hr with rfl | hr
          · exact h1 f List.mem_cons_self
          · exact h2 r hr.1
      · exact h2
  exact key l [] h (fun r hr => by simp at hr)
def Seen (R D : List Rw) (L : List (En Int Vc)) (seen : List Nat) : Prop := (∀ r ∈ D, r ∈ R) ∧ (D.map (·.id)).Nodup ∧ ∀ e ∈ L, (e.2.2 ∈ seen ↔ (⟨e.1, e.2.1⟩ : Rw) ∈ D)
theorem nodup_len : ∀ {l m : List Int}, l.Nodup → (∀ x ∈ l, x ∈ m) → l.length ≤ m.length
  | [], _, _, _ => Nat.zero_le _
  | a :: l, m, h, hs => by
    rw [List.nodup_cons] at h
    have ha := hs a List.mem_cons_self
    have h1 := nodup_len (l := l) (m := m.erase a) h.2 (fun x hx => (List.mem_erase_of_ne (fun e => h.1 (by rw [← e]; exact hx))).2 (hs x (List.mem_cons_of_mem _ hx)))
    have h2 := List.length_erase_of_mem ha
    have h3 := List.length_pos_of_mem ha
    simp only [List.length_cons]; omega
theorem Seen.len {R D : List Rw} {L : List (En Int Vc)} {seen : List Nat} (h : Seen R D L seen) : D.length ≤ R.length := by
  have := nodup_len (l := D.map (·.id)) (m := R.map (·.id)) h.2.1 (fun x hx => by obtain ⟨r, hr, rfl⟩ := List.mem_map.1 hx; exact List.mem_map.2 ⟨r, h.1 r hr, rfl⟩)
  simpa using this
theorem key_inj : ∀ {L : List (En Int Vc)}, (L.map (·.1)).Nodup → ∀ {e e' : En Int Vc}, e ∈ L → e' ∈ L → e.1 = e'.1 → e = e'
  | [], _, e, e', he, _, _ => by simp at he
  | x :: L, h, e, e', he, he', hs => by
    rw [List.map_cons, List.nodup_cons] at h
    rcases List.mem_cons.1 he with e1 | he <;> rcases List.mem_cons.1 he' with e2 | he'
    · rw [e1, e2]
    · exact absurd (List.mem_map.2 ⟨e', he', by rw [← hs, e1]⟩) h.1
    · exact absurd (List.mem_map.2 ⟨e, he, by rw [hs, e2]⟩) h.1
    · exact key_inj h.2 he he' hs
theorem Seen.nil {R : List Rw} {L : List (En Int Vc)} : Seen R [] L [] := ⟨fun r hr => by simp at hr, List.nodup_nil, fun e he => by simp⟩
theorem Seen.step {R D : List Rw} {L : List (En Int Vc)} {seen : List Nat} {clk : Nat} (h : Seen R D L seen) (hm : MOk L clk) (hR : RM R L) {e : En Int Vc} (he : e ∈ L) (hn : e.2.2 ∉ seen) : Seen R (D ++ [⟨e.1, e.2.1⟩]) L (seen ++ [e.2.2]) := by
  obtain ⟨h1, h2, h3⟩ := h
  have hvw : vw L e.1 = some e.2.1 := (vw_some hm.keys).2 ⟨e.2.2, he⟩
  refine ⟨fun r hr => ?_, ?_, fun e' he' => ?_⟩
  · rcases List.mem_append.1 hr with hr | hr
    · exact h1 r hr
    · rw [List.mem_singleton] at hr
      subst hr
      exact (hR.2 e.1 e.2.1).2 hvw
  · rw [List.map_append]
    refine List.nodup_append.2 ⟨h2, by simp, fun a ha b hb => ?_⟩
    simp only [List.map_cons, List.map_nil, List.mem_singleton] at hb
    subst hb
    obtain ⟨r, hr, rfl⟩ := List.mem_map.1 ha
    intro hid
    have hv := (hR.2 r.id r.v).1 (h1 r hr)
    rw [hid, hvw, Option.some.injEq] at hv
    have : (⟨e.1, e.2.1⟩ : Rw) ∈ D := by
      have e1 : r = ⟨e.1, e.2.1⟩ := by cases r; simp only at hid hv; rw [hid, ← hv]
      rw [← e1]; exact hr
    exact hn ((h3 e he).2 this)
  · rw [List.mem_append, List.mem_append, List.mem_singleton, List.mem_singleton, h3 e' he']
    constructor
    · rintro (h | h)
      · exact .inl h
      · exact .inr (by rw [born_inj hm.born he' he h])
    · rintro (h | h)
      · exact .inl h
      · simp only [Rw.mk.injEq] at h
        exact .inr (by rw [key_inj hm.keys he' he h.1])
theorem Seen.all {R D : List Rw} {L : List (En Int Vc)} {seen : List Nat} {clk : Nat} (h : Seen R D L seen) (hm : MOk L clk) (hR : RM R L) (hall : ∀ e ∈ L, e.2.2 ∈ seen) : ∀ x, x ∈ D ↔ x ∈ R := by
  intro x
  refine ⟨h.1 x, fun hx => ?_⟩
  have hv := (hR.2 x.id x.v).1 hx
  obtain ⟨s, hs⟩ := (vw_some hm.keys).1 hv
  exact (h.2.2 _ hs).1 (hall _ hs)
theorem raw112n (F : Nat) (σ : Sto) (n : Nat) {Q : V → Sto → Nat → Prop} (hQ : Q .undef σ n) : run T (.raw 112 [.nilS, .int .i64 0, .int .i64 0, .fn F []] σ n 0) (memQ Q) := by
  refine run_rawE (fn := g112) rfl rfl ?_
  simp only [g112, b112, oO, oN, mV, lD, gO, pP, qQ, cI, aR]
  have w1 : IntKind.i64.wrap ((0 : Int) + 1) = 1 := by decide
  simp +contextual -implicitDefEqProofs (maxSteps := 2000000) only [↓wP, wQ, wQ1, wQ2, wQ3, wR, boxE, partsOf, ↓reduceIte, n1w, n2w, n3w, n4w, n5w, n6w, reduceCtorEq, i1w, i2w, i3w, i4w, i5w, w1]
  refine WC_loopI 0 (fun (_ : Nat) env σ' n' => σ' = σ ∧ n' = n ∧ env 2 = .int .i64 0 ∧ env 8 = .int .i64 1) (fun s => s) ?_ 0 _ _ _ ?_
  · intro _ env σ1 n1 ⟨h1, h2, h3, h4⟩
    subst h1 h2
    simp +contextual -implicitDefEqProofs (maxSteps := 2000000) only [↓wP, wQ, wQ1, wQ2, wQ3, wR, boxE, partsOf, ↓reduceIte, n1w, n2w, n3w, n4w, n5w, n6w, reduceCtorEq, i1w, i2w, i3w, i4w, i5w, h3, h4]
    exact hQ
  · simp +contextual -implicitDefEqProofs (maxSteps := 2000000) only [↓wP, wQ, wQ1, wQ2, wQ3, wR, boxE, partsOf, ↓reduceIte, n1w, n2w, n3w, n4w, n5w, n6w, reduceCtorEq, i1w, i2w, i3w, i4w, i5w]
theorem raw103n (F : Nat) (M : Nat) (σ : Sto) (n : Nat) {Q : V → Sto → Nat → Prop} (hQ : Q .undef σ n) : run T (.raw 103 [.nilS, .int .i64 0, .int .i64 0, .int .i64 (M : Int), .fn F []] σ n 0) (memQ Q) := by
  refine run_rawE (fn := g103) rfl rfl ?_
  simp only [g103, b103, oO, oN, mV, lD, gO, pP, qQ, cI, aR]
  have w1 : IntKind.i64.wrap ((0 : Int) - 0) = 0 := by decide
  simp +contextual -implicitDefEqProofs (maxSteps := 2000000) only [↓wP, wQ, wQ1, wQ2, wQ3, wR, boxE, partsOf, ↓reduceIte, n1w, n2w, n3w, n4w, n5w, n6w, reduceCtorEq, i1w, i2w, i3w, i4w, i5w]
  refine WC_loopI 0 (fun (_ : Nat) env σ' n' => σ' = σ ∧ n' = n ∧ env 0 = .nilS ∧ env 1 = .int .i64 0 ∧ env 2 = .int .i64 0 ∧ env 4 = .fn F []) (fun s => s) ?_ 0 _ _ _ ?_
  · intro _ env σ1 n1 ⟨h1, h2, h3, h4, h5, h6⟩
    subst h1 h2
    simp +contextual -implicitDefEqProofs (maxSteps := 2000000) only [↓wP, wQ, wQ1, wQ2, wQ3, wR, boxE, partsOf, ↓reduceIte, n1w, n2w, n3w, n4w, n5w, n6w, reduceCtorEq, i1w, i2w, i3w, i4w, i5w, h3, h4, h5, h6, w1]
    refine stepW_raw (by decide) (raw112n F σ1 n1 ?_)
    simp +contextual -implicitDefEqProofs (maxSteps := 2000000) only [↓wP, wQ, wQ1, wQ2, wQ3, wR, boxE, partsOf, ↓reduceIte, n1w, n2w, n3w, n4w, n5w, n6w, reduceCtorEq, i1w, i2w, i3w, i4w, i5w]
    exact hQ
  · simp +contextual -implicitDefEqProofs (maxSteps := 2000000) only [↓wP, wQ, wQ1, wQ2, wQ3, wR, boxE, partsOf, ↓reduceIte, n1w, n2w, n3w, n4w, n5w, n6w, reduceCtorEq, i1w, i2w, i3w, i4w, i5w]
theorem raw75n (F : Nat) (σ : Sto) (n : Nat) {Q : V → Sto → Nat → Prop} (hQ : Q .undef σ n) : run T (.raw 75 [.nilS, .fn F []] σ n 0) (memQ Q) := by
  refine run_rawE (fn := g75) rfl rfl ?_
  simp only [g75, b75, oO, oN, mV, lD, gO, pP, qQ, cI, aR]
  obtain ⟨M, h2, h3⟩ := r104 0 (by omega)
  have f104 := callE_tr (fs := true) (by decide) h3 (by simp [Tr]) rfl
  have wu : IntKind.u64.wrap ((0 : Nat) : Int) = ((0 : Nat) : Int) := by decide
  simp +contextual -implicitDefEqProofs (maxSteps := 2000000) only [↓wP, wQ, wQ1, wQ2, wQ3, wR, boxE, partsOf, ↓reduceIte, n1w, n2w, n3w, n4w, n5w, n6w, reduceCtorEq, i1w, i2w, i3w, i4w, i5w, wu, f104]
  refine stepW_raw (by decide) (raw103n F M σ n ?_)
  simp +contextual -implicitDefEqProofs (maxSteps := 2000000) only [↓wP, wQ, wQ1, wQ2, wQ3, wR, boxE, partsOf, ↓reduceIte, n1w, n2w, n3w, n4w, n5w, n6w, reduceCtorEq, i1w, i2w, i3w, i4w, i5w]
  exact hQ
theorem sorted_asc {d d' : Array Rw} (hp : PermIn 0 d.size d d') (hs : SortedIn ahR 0 d.size d') (hn : (d.toList.map (·.id)).Nodup) : Asc d'.toList ∧ ∀ x, x ∈ d'.toList ↔ x ∈ d.toList := by
  have hsz := hp.1
  have hperm : d'.toList.Perm d.toList := by
    have := hp.2.2
    rw [← hsz] at this
    have e1 : (d'.extract 0 d'.size) = d' := by simp
    have e2 : (d.extract 0 d'.size) = d := by rw [hsz]; simp
    rw [e1, e2] at this
    exact this
  refine ⟨?_, fun x => hperm.mem_iff⟩
  unfold Asc
  rw [List.pairwise_iff_getElem]
  intro i j hi hj hij
  have hi' : i < d'.size := by simpa using hi
  have hj' : j < d'.size := by simpa using hj
  have h1 := hs i j (Nat.zero_le _) hij (by omega)
  have e1 : d'[i]! = d'.toList[i] := by simp [hi']
  have e2 : d'[j]! = d'.toList[j] := by simp [hj']
  rw [e1, e2] at h1
  have h2 : ¬ (d'.toList[j]).id < (d'.toList[i]).id := by simpa [ahR] using h1
  have hn' : (d'.toList.map (·.id)).Nodup := (hperm.map _).nodup_iff.2 hn
  rw [List.nodup_iff_pairwise_ne, List.pairwise_map, List.pairwise_iff_getElem] at hn'
  have := hn' i j hi hj hij
  omega
theorem c65 {σ : Sto} {n : Nat} (l : Option (List Fa)) (c t : Int) (h0 : σ 0 = some (.row 1 [.int .i64 c])) (h1 : σ 1 = some (.row 1 [.int .u64 t])) :
    ∃ σ', callE T true 65 [slV 5 faV l, .fn 95 [.ptr 0 1 0 0, .ptr 1 1 0 0]] σ n 0 = some (.fn 97 [.box [slV 5 faV l], .box [.fn 95 [.box [.int .i64 c], .box [.int .u64 t]]]], σ', n) ∧ ∀ i, i ≠ 0 → i ≠ 1 → σ' i = σ i := by
  have m : [slV 5 faV l, V.fn 95 [.ptr 0 1 0 0, .ptr 1 1 0 0]].mapM (frz σ 12) = some [slV 5 faV l, .fn 95 [.box [.int .i64 c], .box [.int .u64 t]]] := by
    have x3 : frz σ 12 (.fn 95 [.ptr 0 1 0 0, .ptr 1 1 0 0]) = some (.fn 95 [.box [.int .i64 c], .box [.int .u64 t]]) := by
      simp only [frz, rowAt, h0, h1, List.mapM_cons, List.mapM_nil, if_true, List.getElem?_cons_zero, Option.bind_some, V.cells, List.drop_zero]
      rfl
    simp only [List.mapM_cons, List.mapM_nil, x3, frz_slV]; rfl
  obtain ⟨σ', e1, e2⟩ := callE_sh' (by decide) m (r65 l (.fn 95 [.box [.int .i64 c], .box [.int .u64 t]]) rfl rfl rfl) (fun σ n => rfl) n
  refine ⟨σ', e1, fun i hi hi' => e2 i (fun hd => ?_)⟩
  simp only [List.flatMap_cons, List.flatMap_nil, rch_slV, List.nil_append, List.append_nil] at hd
  have x4 : rch σ 12 (.fn 95 [.ptr 0 1 0 0, .ptr 1 1 0 0]) = [0, 1] := by
    simp only [rch, rowAt, h0, h1, List.flatMap_cons, List.flatMap_nil, if_true, List.getElem?_cons_zero, Option.map_some, Option.getD_some, V.cells, List.drop_zero, List.append_nil]
    rfl
  rw [x4] at hd
  simp at hd
  omega
end Go.Q.SB
end

section
/- ideal.rows and ideal.State. -/
set_option linter.unusedSimpArgs false
set_option linter.unusedVariables false
namespace Go.Q.SB
open Go.Q Go.Sort
open Nat renaming reduceEqDiff → n1w, reduceAdd → n2w, reduceSub → n3w, reduceLeDiff → n4w, reduceLT → n5w, reduceMul → n6w
open Int renaming reduceBNe → i1w, reduceBEq → i2w, reduceLT → i3w, reduceLE → i4w, reduceGT → i5w
def Few (l : List Fa) : Prop := l.length ≤ 128 ∧ ∀ f ∈ l, (lst f.w.v).length ≤ 1000000
theorem Few.fit {l : List Fa} (h : Few l) : FitF l := ⟨by have := h.1; omega, h.2⟩
theorem rw_toArray (D : List Rw) : rw' D.toArray = D.map rwV := by unfold rw'; rfl
theorem r60 (l : Option (List Fa)) (c t : Int) (h : Few (lst l)) : res T 60 [slV 5 faV l, .int .i64 c, .int .u64 t] = some (slV 2 rwV (oL (nowR (lst l) c t))) := by
  refine run_res (run_pure (fn := g60) rfl rfl (by decide) ?_)
  simp only [g60, b60, oO, oN, mV, lD, gO, pP, qQ, cI, aR]
  have hl := h.1
  obtain ⟨σ0, hσ0⟩ : ∃ σ0, σ0 = upd (upd (upd (upd (upd Sto.empty 0 (some (.row 1 [.int .i64 c]))) 1 (some (.row 1 [.int .u64 t]))) 2 (some (.map [] 0))) 3 (some (.row 1 [.nilM]))) 3 (some (.row 1 [.mp 2])) := ⟨_, rfl⟩
  have t0 : σ0 0 = some (.row 1 [.int .i64 c]) := by rw [hσ0]; simp [upd]
  have t1 : σ0 1 = some (.row 1 [.int .u64 t]) := by rw [hσ0]; simp [upd]
  have t2 : σ0 2 = some (.map (ens uV vV []) 0) := by rw [hσ0]; simp [upd, ens]
  have t3 : σ0 3 = some (.row 1 [.mp 2]) := by rw [hσ0]; simp [upd]
  obtain ⟨σa, a1, a2⟩ := c65 (n := 4) l c t t0 t1
  obtain ⟨R, hR⟩ : ∃ R, R = nowR (lst l) c t := ⟨_, rfl⟩
  have hRl : R.length ≤ 128 := by rw [hR]; have := nowR_len (lst l) c t; omega
  have hRv : ∀ r ∈ R, (lst r.v).length ≤ 1000000 := by rw [hR]; exact nowR_all (P := fun v => (lst v).length ≤ 1000000) h.2 c t
  have hRa : Asc R := by rw [hR]; exact nowR_asc _ _ _
  rw [← hR]
  simp +contextual -implicitDefEqProofs (maxSteps := 2000000) only [↓wP, wQ, wQ1, wQ2, wQ3, wR, boxE, partsOf, ↓reduceIte, n1w, n2w, n3w, n4w, n5w, n6w, reduceCtorEq, i1w, i2w, i3w, i4w, i5w, ← hσ0, a1]
  refine nowLoop l c t (by omega) rfl rfl (by rw [a2 3 (by decide) (by decide)]; exact t3) (by rw [a2 2 (by decide) (by decide)]; exact t2) (by omega) (fun σ1 n1 e1 e2 ⟨Lm, clk, m1, m2, m3⟩ => ?_)
  rw [← hR] at m3
  have t3' : σ1 3 = some (.row 1 [.mp 2]) := by rw [e1 3 (by omega) (by decide), a2 3 (by decide) (by decide)]; exact t3
  have hrg : rangeE (.mp 2) σ1 n1 = some (.it n1, upd σ1 n1 (some (.iter 2 clk [] clk)), n1 + 1) := by simp [rangeE, m2]
  simp +contextual -implicitDefEqProofs (maxSteps := 2000000) only [↓wP, wQ, wQ1, wQ2, wQ3, wR, boxE, partsOf, ↓reduceIte, n1w, n2w, n3w, n4w, n5w, n6w, reduceCtorEq, i1w, i2w, i3w, i4w, i5w, t3', hrg]
  refine WC_cutB (fun env σ n => ∃ (D : List Rw) (v : V), env 9 = v ∧ Pl σ (n1 + 1) n 2 v (oL (D.map rwV)) ∧ (D.map (·.id)).Nodup ∧ ∀ x, x ∈ D ↔ x ∈ R) ?_ ?_
  · refine WC_loopM 0 (fun (seen : List Nat) env σ n => env 32 = .it n1 ∧ n1 < n ∧ σ n1 = some (.iter 2 clk seen clk) ∧ σ 2 = some (.map (ens uV vV Lm) clk) ∧ ∃ (D : List Rw) (v : V), env 9 = v ∧ Pl σ (n1 + 1) n 2 v (oL (D.map rwV)) ∧ Seen R D Lm seen) (fun seen => (Lm.filter fun x => decide (x.2.2 ∉ seen)).length) ?_ [] _ _ _ ?_
    · intro seen env σ n ⟨k1, k2, k3, k4, D, v, k5, k6, k7⟩
      rw [vl_tmp, k1]
      refine nextW_ens m1 k3 k4 (Nat.zero_le _) (fun e he hn => ?_) (fun hall => ?_)
      · obtain ⟨S0, hS0⟩ : ∃ S, S = upd σ n1 (some (.iter 2 clk (seen ++ [e.2.2]) clk)) := ⟨_, rfl⟩
        rw [← hS0]
        have b1 : S0 2 = some (.map (ens uV vV Lm) clk) := by rw [hS0, upd_ne (by omega)]; exact k4
        have b2 : S0 n1 = some (.iter 2 clk (seen ++ [e.2.2]) clk) := by rw [hS0, upd_self]
        have b3 : ∀ i, i ≠ n1 → S0 i = σ i := fun i hi => by rw [hS0, upd_ne hi]
        have hen := entry_ens m1 b2 b1 he
        have hlt := unseen_lt he hn
        have hst := k7.step m1 m3 he hn
        have hDl := k7.len
        have hev : (lst e.2.1).length ≤ 1000000 := hRv ⟨e.1, e.2.1⟩ ((m3.2 e.1 e.2.1).2 ((vw_some m1.keys).2 ⟨e.2.2, he⟩))
        obtain ⟨a, vv, s⟩ := e
        simp only [uV, vV] at hen
        have f := f74 vv hev
        have hc := k6.cells
        have hsp := spl k6
        have k6' := k6.loc (σ' := S0) (fun i hi _ => b3 i (by omega)) (Nat.le_refl n)
        have hvn : ∀ i, i ≤ n1 → ∀ off len s, v ≠ .ref i off len s := by
          intro i hi off len s e
          subst e
          cases ho' : oL (D.map rwV) with
          | none => rw [ho'] at k6; cases k6
          | some xs => rw [ho'] at k6; obtain ⟨i, e, -, e2, -⟩ := k6; simp only [V.ref.injEq] at e; omega
        simp +contextual -implicitDefEqProofs (maxSteps := 2000000) only [↓wP, wQ, wQ1, wQ2, wQ3, wR, boxE, partsOf, ↓reduceIte, n1w, n2w, n3w, n4w, n5w, n6w, reduceCtorEq, i1w, i2w, i3w, i4w, i5w, k1, k5, hen, f]
        refine stepW_app1 (m := n1 + 1) (n0 := n) (σ0 := S0) k6' (fun i g1 g2 => ?_) (by omega) (by omega) (Nat.zero_le _) ?_ (fun _ σ2 g1 g2 => ?_)
        · rw [upd_ne (by omega)]
        · rw [lst_oL, List.length_map]; unfold LIM; omega
        · rw [lst_oL] at g1 ⊢
          have b2' : σ2 n1 = some (.iter 2 clk (seen ++ [s]) clk) := by rw [g2 n1 (by omega) (hvn n1 (Nat.le_refl _)), upd_ne (by omega)]; exact b2
          have b1' : σ2 2 = some (.map (ens uV vV Lm) clk) := by rw [g2 2 (by omega) (hvn 2 (by omega)), upd_ne (by omega)]; exact b1
          simp +contextual -implicitDefEqProofs (maxSteps := 2000000) only [↓wP, wQ, wQ1, wQ2, wQ3, wR, boxE, partsOf, ↓reduceIte, n1w, n2w, n3w, n4w, n5w, n6w, reduceCtorEq, i1w, i2w, i3w, i4w, i5w, k1, hc, hsp]
          refine ⟨seen ++ [s], hlt, by omega, b2', b1', D ++ [⟨a, vv⟩], _, rfl, ?_, hst⟩
          rw [List.map_append]
          have e3 : oL (D.map rwV ++ [(⟨a, vv⟩ : Rw)].map rwV) = some (D.map rwV ++ [.agg [.int .u64 a, slV 1 i32V vv]]) := by
            cases D <;> rfl
          rw [e3]
          exact g1
      · simp +contextual -implicitDefEqProofs (maxSteps := 2000000) only [↓wP, wQ, wQ1, wQ2, wQ3, wR, boxE, partsOf, ↓reduceIte, n1w, n2w, n3w, n4w, n5w, n6w, reduceCtorEq, i1w, i2w, i3w, i4w, i5w]
        exact ⟨rfl, rfl, D, v, k5, k6, k7.2.1, k7.all m1 m3 hall⟩
    · simp +contextual -implicitDefEqProofs (maxSteps := 2000000) only [↓wP, wQ, wQ1, wQ2, wQ3, wR, boxE, partsOf, ↓reduceIte, n1w, n2w, n3w, n4w, n5w, n6w, reduceCtorEq, i1w, i2w, i3w, i4w, i5w]
      have c2 : (2 : Nat) ≠ n1 := by omega
      exact ⟨by omega, by rw [if_neg c2]; exact m2, [], .nilS, rfl, by simp [oL, Pl], Seen.nil⟩
  · intro env σ n ⟨D, v, k1, k2, k3, k4⟩
    have hDl : D.length ≤ R.length := by
      have := nodup_len (l := D.map (·.id)) (m := R.map (·.id)) k3 (fun x hx => by obtain ⟨r, hr, rfl⟩ := List.mem_map.1 hx; exact List.mem_map.2 ⟨r, (k4 r).1 hr, rfl⟩)
      simpa using this
    cases D with
    | nil =>
      have hR0 : R = [] := by
        cases R with
        | nil => rfl
        | cons r R => have := (k4 r).2 List.mem_cons_self; simp at this
      simp only [List.map_nil, oL, Pl] at k2
      rw [k2] at k1
      simp +contextual -implicitDefEqProofs (maxSteps := 2000000) only [↓wP, wQ, wQ1, wQ2, wQ3, wR, boxE, partsOf, ↓reduceIte, n1w, n2w, n3w, n4w, n5w, n6w, reduceCtorEq, i1w, i2w, i3w, i4w, i5w, k1]
      refine stepW_raw (by decide) (raw75n 96 σ n ?_)
      simp +contextual -implicitDefEqProofs (maxSteps := 2000000) only [↓wP, wQ, wQ1, wQ2, wQ3, wR, boxE, partsOf, ↓reduceIte, n1w, n2w, n3w, n4w, n5w, n6w, reduceCtorEq, i1w, i2w, i3w, i4w, i5w, k1]
      rw [hR0]; rfl
    | cons r0 D0 =>
      obtain ⟨D, hD⟩ : ∃ D, D = r0 :: D0 := ⟨_, rfl⟩
      rw [← hD] at k2 k3 k4 hDl
      have ho : oL (D.map rwV) = some (D.map rwV) := by rw [hD]; rfl
      rw [ho] at k2
      obtain ⟨i, rfl, p1, p2, p3⟩ := k2
      rw [List.length_map] at k1
      have hsz : D.toArray.size = D.length := by simp
      simp +contextual -implicitDefEqProofs (maxSteps := 2000000) only [↓wP, wQ, wQ1, wQ2, wQ3, wR, boxE, partsOf, ↓reduceIte, n1w, n2w, n3w, n4w, n5w, n6w, reduceCtorEq, i1w, i2w, i3w, i4w, i5w, k1]
      refine stepW_raw (by decide) ?_
      have hr := raw75 96 cmp96 D.toArray i n σ (by omega) p3 (by rw [rw_toArray]; exact p1) (Q := fun v σ' n' => ∃ d', σ' i = some (.row 2 (rw' d')) ∧ d'.size = D.length ∧ d'.toList = R) (fun σ' d' n' q1 q2 q3 q4 q5 => by
        obtain ⟨s1, s2⟩ := sorted_asc q4 q5 (by simpa using k3)
        refine ⟨d', q2, by rw [q4.1, hsz], asc_uniq s1 hRa (fun x => ?_)⟩
        rw [s2, ← k4])
      rw [hsz] at hr
      refine run_mono _ _ _ (fun o ho => ?_) hr
      cases o <;> try exact ho.elim
      obtain ⟨d', q1, q2, q3⟩ := ho
      have hf := frz_row q2 q1 9
      have hrw : rw' d' = R.map rwV := by unfold rw'; rw [q3]
      rw [hrw] at hf
      have hRne : oL R = some R := by
        cases R with
        | nil => have := (k4 r0).1 (by rw [hD]; exact List.mem_cons_self); simp at this
        | cons r R => rfl
      show WR T _ _ _ _ _ _
      simp +contextual -implicitDefEqProofs (maxSteps := 2000000) only [↓wP, wQ, wQ1, wQ2, wQ3, wR, boxE, partsOf, ↓reduceIte, n1w, n2w, n3w, n4w, n5w, n6w, reduceCtorEq, i1w, i2w, i3w, i4w, i5w, k1, hf]
      rw [hRne]; rfl
end Go.Q.SB
end

section
/- ideal.State; which rows are the same. -/
set_option linter.unusedSimpArgs false
set_option linter.unusedVariables false
namespace Go.Q.SB
open Go.Q Go.Sort
open Nat renaming reduceEqDiff → n1w, reduceAdd → n2w, reduceSub → n3w, reduceLeDiff → n4w, reduceLT → n5w, reduceMul → n6w
open Int renaming reduceBNe → i1w, reduceBEq → i2w, reduceLT → i3w, reduceLE → i4w, reduceGT → i5w
theorem asc_step {R : List Rw} (h : Asc R) (w : Wr) : Asc (ovStep R w) := by
  unfold ovStep
  split
  · exact asc_delR h _
  · exact asc_putR h _
theorem del_step_eq {R : List Rw} (h : Asc R) {w : Wr} {a : Int} (e : w.id = a) : delR (ovStep R w) a = delR R a := by
  refine asc_uniq (asc_delR (asc_step h w) a) (asc_delR h a) (fun x => ?_)
  rw [mem_delR, mem_delR]
  unfold ovStep
  split
  · rw [mem_delR, e]
    constructor
    · rintro ⟨⟨h1, h2⟩, h3⟩; exact ⟨h1, h3⟩
    · rintro ⟨h1, h3⟩; exact ⟨⟨h1, h3⟩, h3⟩
  · rw [mem_putR]
    constructor
    · rintro ⟨h1 | ⟨h1, h2⟩, h3⟩
      · rw [h1] at h3; exact absurd e h3
      · exact ⟨h1, h3⟩
    · rintro ⟨h1, h3⟩; exact ⟨.inr ⟨h1, by rw [e]; exact h3⟩, h3⟩
theorem del_step_ne {R : List Rw} (h : Asc R) {w : Wr} {a : Int} (e : w.id ≠ a) : ovStep (delR R a) w = delR (ovStep R w) a := by
  refine asc_uniq (asc_step (asc_delR h a) w) (asc_delR (asc_step h w) a) (fun x => ?_)
  rw [mem_delR]
  unfold ovStep
  split
  · rw [mem_delR, mem_delR, mem_delR]
    constructor
    · rintro ⟨⟨h1, h2⟩, h3⟩; exact ⟨⟨h1, h3⟩, h2⟩
    · rintro ⟨⟨h1, h3⟩, h2⟩; exact ⟨⟨h1, h2⟩, h3⟩
  · rw [mem_putR, mem_putR, mem_delR]
    constructor
    · rintro (h1 | ⟨⟨h1, h2⟩, h3⟩)
      · exact ⟨.inl h1, by rw [h1]; exact e⟩
      · exact ⟨.inr ⟨h1, h3⟩, h2⟩
    · rintro ⟨h1 | ⟨h1, h3⟩, h2⟩
      · exact .inl h1
      · exact .inr ⟨⟨h1, h2⟩, h3⟩
theorem fold_del : ∀ (W : List Wr) {R : List Rw} (a : Int), Asc R → (W.filter fun x => x.id != a).foldl ovStep (delR R a) = delR (W.foldl ovStep R) a
  | [], _, _, _ => rfl
  | w :: W, R, a, h => by
    rw [List.filter_cons, List.foldl_cons, ← fold_del W a (asc_step h w)]
    by_cases e : w.id = a
    · have e1 : (w.id != a) = false := by simp [e]
      rw [e1]
      simp only [Bool.false_eq_true, if_false]
      rw [del_step_eq h e]
    · have e1 : (w.id != a) = true := by simp [e]
      rw [e1]
      simp only [if_true, List.foldl_cons]
      rw [del_step_ne h e]
theorem delR_twice (R : List Rw) (a : Int) : delR (delR R a) a = delR R a := by unfold delR; rw [List.filter_filter]; simp
theorem step_del (R : List Rw) (w : Wr) : ovStep (delR R w.id) w = ovStep R w := by
  unfold ovStep
  split
  · exact delR_twice R _
  · unfold putR; rw [delR_twice]
theorem delR_nil (a : Int) : delR [] a = [] := rfl
theorem now_st (l : List Fa) (c t : Int) : (stW l c t).foldl ovStep [] = nowR l c t := by
  have key : ∀ n, n ≤ l.length → (stW (l.take n) c t).foldl ovStep [] = nowR (l.take n) c t := by
    intro n
    induction n with
    | zero => intro _; rfl
    | succ n ih =>
      intro hn
      have ih' := ih (by omega)
      rw [← List.take_append_getElem (by omega : n < l.length), stW_snoc, nowR_snoc]
      generalize l[n]'(by omega) = f
      unfold stStep nowStep cnt
      by_cases h1 : f.ts ≤ t
      · by_cases h2 : f.w.c = c
        · rw [if_pos ⟨h1, h2⟩, if_pos (by simp [h1, h2]), List.foldl_append]
          have := fold_del (stW (l.take n) c t) (R := []) f.w.id List.Pairwise.nil
          rw [delR_nil] at this
          rw [this, ih']
          show ovStep (delR _ f.w.id) f.w = _
          rw [step_del]
        · rw [if_neg (by rintro ⟨-, h⟩; exact h2 h), if_neg (by simp [h2]), ih']
      · rw [if_neg (by rintro ⟨h, -⟩; exact h1 h), if_neg (by simp [h1]), ih']
  have := key l.length (Nat.le_refl _)
  rw [List.take_length] at this
  exact this
theorem stR_now (l : List Fa) (c t : Int) : stR l c t = (nowR l c t).map cpR := by
  unfold stR ovR
  show ((stW l c t).foldl ovStep []).map cpR = _
  rw [now_st]
def stE (l : List Fa) (c : Int) : Int := if rightF l = false then 280 else if collB c = false then 2 else 0
def stO (l : List Fa) (c t : Int) : List Rw := if stE l c = 0 then nowR l c t else []
theorem r22 (l : Option (List Fa)) (c t : Int) (h : Few (lst l)) : res T 22 [slV 5 faV l, .int .i64 c, .int .u64 t] = some (.tup [slV 2 rwV (oL (stO (lst l) c t)), .int .i64 (stE (lst l) c)]) := by
  refine run_res (run_pure (fn := g22) rfl rfl (by decide) ?_)
  simp only [g22, b22, oO, oN, mV, lD, gO, pP, qQ, cI, aR]
  have f24' := f24 l h.fit.sm
  have f59' := f59 c
  have f60' := callE_tr (fs := true) (by decide) (r60 l c t h) (by simp [Tr, Tr_slV]) (Nw_slV _ _ _ _)
  have hm44 : T.mode 44 ≠ .raw := by decide
  unfold stO stE
  cases hrf : rightF (lst l)
  · rw [hrf] at f24'
    rw [if_neg (by decide)] at f24'
    have r := r44 280 (if collB c = true then 0 else 2)
    rw [if_neg (show ¬ (280 : Int) = 0 by decide)] at r
    have z0 : ((280 : Int) != 0) = true := rfl
    simp +contextual -implicitDefEqProofs (maxSteps := 2000000) only [↓wP, wQ, wQ1, wQ2, wQ3, wR, boxE, partsOf, ↓reduceIte, n1w, n2w, n3w, n4w, n5w, n6w, reduceCtorEq, i1w, i2w, i3w, i4w, i5w, f24', f59', callE_eq hm44, frz_rf, rch_rf, r, z0]
    rfl
  rw [hrf] at f24'
  rw [if_pos rfl] at f24'
  cases hrw : collB c
  · rw [hrw] at f59'
    rw [if_neg (by decide)] at f59'
    have r := r44 0 2
    rw [if_pos rfl] at r
    have z0 : ((2 : Int) != 0) = true := rfl
    simp +contextual -implicitDefEqProofs (maxSteps := 2000000) only [↓wP, wQ, wQ1, wQ2, wQ3, wR, boxE, partsOf, ↓reduceIte, n1w, n2w, n3w, n4w, n5w, n6w, reduceCtorEq, i1w, i2w, i3w, i4w, i5w, f24', f59', callE_eq hm44, frz_rf, rch_rf, r, z0]
    rfl
  rw [hrw] at f59'
  rw [if_pos rfl] at f59'
  have r := r44 0 0
  rw [if_pos rfl] at r
  have z0 : ((0 : Int) != 0) = false := rfl
  simp +contextual -implicitDefEqProofs (maxSteps := 2000000) only [↓wP, wQ, wQ1, wQ2, wQ3, wR, boxE, partsOf, ↓reduceIte, n1w, n2w, n3w, n4w, n5w, n6w, reduceCtorEq, i1w, i2w, i3w, i4w, i5w, f24', f59', callE_eq hm44, frz_rf, rch_rf, r, z0, f60']
theorem f22 (l : Option (List Fa)) (c t : Int) (h : Few (lst l)) (fs : Bool) (σ : Sto) (n lk : Nat) : callE T fs 22 [slV 5 faV l, .int .i64 c, .int .u64 t] σ n lk = some (.tup [slV 2 rwV (oL (stO (lst l) c t)), .int .i64 (stE (lst l) c)], σ, n) :=
  callE_tr (by decide) (r22 l c t h) (by simp [Tr, Tr_slV]) (by simp [Nw, Nw_slV]) fs σ n lk
def sameR1 (a b : Rw) : Bool := a.id == b.id && lst a.v == lst b.v
def SmR (l : Option (List Rw)) : Prop := (lst l).length < 4611686018427387904 ∧ ∀ r ∈ lst l, Sm r.v
theorem r31 (a b : Option (List Rw)) (ha : SmR a) (hb : SmR b) : res T 31 [slV 2 rwV a, slV 2 rwV b] = some (.bool (sameL sameR1 (lst a) (lst b))) := by
  refine run_res (run_pure (fn := g31) rfl rfl (by decide) ?_)
  simp only [g31, b31, oO, oN, mV, lD, gO, pP, qQ, cI, aR]
  have hla := ha.1
  have hlb := hb.1
  unfold sameL
  by_cases hlen : (lst a).length = (lst b).length
  · have hd : (((lst a).length : Int) != ((lst b).length : Int)) = false := by simp [hlen]
    rw [decide_eq_true hlen, Bool.true_and]
    simp +contextual -implicitDefEqProofs (maxSteps := 2000000) only [↓wP, wQ, wQ1, wQ2, wQ3, wR, boxE, partsOf, ↓reduceIte, n1w, n2w, n3w, n4w, n5w, n6w, reduceCtorEq, i1w, i2w, i3w, i4w, i5w, hd]
    refine WC_for (lst a).length 0 (fun (j : Nat) env σ n => env 0 = slV 2 rwV a ∧ env 1 = slV 2 rwV b ∧ smU sameR1 (lst a) (lst b) j = true) (by omega) (by decide) (by decide) (fun _ _ => rfl) (fun _ _ _ => rfl) ?_ ?_ _ _ _ rfl rfl ?_
    · intro j env σ n hj h1 h2 ⟨g1, g2, g3⟩
      simp only [vl_tmp] at h2
      have hx : (lst a)[j]? = some (lst a)[j] := List.getElem?_eq_getElem hj
      have hy : (lst b)[j]? = some (lst b)[j] := List.getElem?_eq_getElem (by omega)
      have hst := smU_step (p := sameR1) hj (by omega : j < (lst b).length)
      rw [g3, Bool.true_and] at hst
      have hvx := ha.2 _ (List.getElem_mem hj)
      have hno : sameR1 (lst a)[j] (lst b)[j] = false → smU sameR1 (lst a) (lst b) (lst a).length = false := fun hk => smU_no (by rw [hst, hk]) _ (by omega)
      generalize (lst a)[j] = x at *
      generalize (lst b)[j] = y at *
      have f := f56 x.v y.v (by unfold Sm at hvx; omega)
      have hs1 : sameR1 x y = (x.id == y.id && (lst x.v == lst y.v)) := rfl
      by_cases k1 : x.id = y.id
      · have k1' : (x.id != y.id) = false := by simp [k1]
        cases k5 : (lst x.v == lst y.v)
        · rw [k5] at f
          have hk := hno (by rw [hs1, k5]; simp)
          simp +contextual -implicitDefEqProofs (maxSteps := 2000000) only [↓wP, wQ, wQ1, wQ2, wQ3, wR, boxE, partsOf, ↓reduceIte, n1w, n2w, n3w, n4w, n5w, n6w, reduceCtorEq, i1w, i2w, i3w, i4w, i5w, h1, h2, g1, g2, hx, hy, rwV_eq, k1', f]
          rw [hk]
        · rw [k5] at f
          have hk : sameR1 x y = true := by rw [hs1, k1, k5]; simp
          simp +contextual -implicitDefEqProofs (maxSteps := 2000000) only [↓wP, wQ, wQ1, wQ2, wQ3, wR, boxE, partsOf, ↓reduceIte, n1w, n2w, n3w, n4w, n5w, n6w, reduceCtorEq, i1w, i2w, i3w, i4w, i5w, h1, h2, g1, g2, hx, hy, rwV_eq, k1', f]
          rw [hst, hk]
      · have k1' : (x.id != y.id) = true := by simp [k1]
        have hk := hno (by rw [hs1]; simp [k1])
        simp +contextual -implicitDefEqProofs (maxSteps := 2000000) only [↓wP, wQ, wQ1, wQ2, wQ3, wR, boxE, partsOf, ↓reduceIte, n1w, n2w, n3w, n4w, n5w, n6w, reduceCtorEq, i1w, i2w, i3w, i4w, i5w, h1, h2, g1, g2, hx, hy, rwV_eq, k1']
        rw [hk]
    · intro env σ n ⟨g1, g2, g3⟩ h1 h2
      simp +contextual -implicitDefEqProofs (maxSteps := 2000000) only [↓wP, wQ, wQ1, wQ2, wQ3, wR, boxE, partsOf, ↓reduceIte, n1w, n2w, n3w, n4w, n5w, n6w, reduceCtorEq, i1w, i2w, i3w, i4w, i5w]
      rw [g3]
    · simp +contextual -implicitDefEqProofs (maxSteps := 2000000) only [↓wP, wQ, wQ1, wQ2, wQ3, wR, boxE, partsOf, ↓reduceIte, n1w, n2w, n3w, n4w, n5w, n6w, reduceCtorEq, i1w, i2w, i3w, i4w, i5w]
      rfl
  · have hd : (((lst a).length : Int) != ((lst b).length : Int)) = true := by simp; omega
    rw [decide_eq_false hlen]
    simp +contextual -implicitDefEqProofs (maxSteps := 2000000) only [↓wP, wQ, wQ1, wQ2, wQ3, wR, boxE, partsOf, ↓reduceIte, n1w, n2w, n3w, n4w, n5w, n6w, reduceCtorEq, i1w, i2w, i3w, i4w, i5w, hd]
theorem f31 (a b : Option (List Rw)) (ha : SmR a) (hb : SmR b) (fs : Bool) (σ : Sto) (n lk : Nat) : callE T fs 31 [slV 2 rwV a, slV 2 rwV b] σ n lk = some (.bool (sameL sameR1 (lst a) (lst b)), σ, n) :=
  callE_tr (by decide) (r31 a b ha hb) (by simp [Tr, Tr_slV]) rfl fs σ n lk
theorem same_r {l m : List Rw} (h : l.map (fun r => (r.id, lst r.v)) = m.map (fun r => (r.id, lst r.v))) : sameL sameR1 l m = true := sameL_of (q := fun r : Rw => (r.id, lst r.v)) (fun a b h => by
  simp only [Prod.mk.injEq] at h
  unfold sameR1
  rw [h.1, h.2]; simp) h
theorem same_now (l : List Fa) (c t : Int) : sameL sameR1 (nowR l c t) (stR l c t) = true := by
  refine same_r ?_
  rw [stR_now, List.map_map]; rfl
end Go.Q.SB
end

section
/- What a transaction sees: plain laws. -/
set_option linter.unusedSimpArgs false
set_option linter.unusedVariables false
namespace Go.Q.SB
open Go.Q Go.Sort
def ownI (W : List Wr) (id : Int) : Bool := W.any fun w => w.id == id
end Go.Q.SB
end

section
/- What a transaction sees: writes of a collection, rows told one by one. -/
set_option linter.unusedSimpArgs false
set_option linter.unusedVariables false
namespace Go.Q.SB
open Go.Q Go.Sort
open Nat renaming reduceEqDiff → n1w, reduceAdd → n2w, reduceSub → n3w, reduceLeDiff → n4w, reduceLT → n5w, reduceMul → n6w
open Int renaming reduceBNe → i1w, reduceBEq → i2w, reduceLT → i3w, reduceLE → i4w, reduceGT → i5w
def Own (σ : Sto) (pr pm pw mid : Nat) (o : Option (List Rw)) (w : Option (List Wr)) : Prop :=
  σ pr = some (.row 1 [slV 2 rwV o]) ∧ σ pm = some (.row 1 [.mp mid]) ∧ σ pw = some (.row 1 [slV 4 wrV w]) ∧ ∃ Lm clk, MOk Lm clk ∧ σ mid = some (.map (ens uV bV Lm) clk) ∧ ∀ id, (vw Lm id).getD false = ownI (lst w) id
end Go.Q.SB
end

section
/- writes.Overlay. -/
set_option linter.unusedSimpArgs false
set_option linter.unusedVariables false
namespace Go.Q.SB
open Go.Q Go.Sort
open Nat renaming reduceEqDiff → n1w, reduceAdd → n2w, reduceSub → n3w, reduceLeDiff → n4w, reduceLT → n5w, reduceMul → n6w
open Int renaming reduceBNe → i1w, reduceBEq → i2w, reduceLT → i3w, reduceLE → i4w, reduceGT → i5w
end Go.Q.SB
end

section
/- Conflicts. -/
set_option linter.unusedSimpArgs false
set_option linter.unusedVariables false
namespace Go.Q.SB
open Go.Q Go.Sort
open Nat renaming reduceEqDiff → n1w, reduceAdd → n2w, reduceSub → n3w, reduceLeDiff → n4w, reduceLT → n5w, reduceMul → n6w
open Int renaming reduceBNe → i1w, reduceBEq → i2w, reduceLT → i3w, reduceLE → i4w, reduceGT → i5w
def cfP (start : Int) (own : Ky → Bool) (f : Fa) : Bool := decide (start < f.ts) && own (key f.w)
theorem raw58 (f : Fa) (start : Int) (own : Ky → Bool) (a b mid n : Nat) (σ : Sto) (ha : σ a = some (.row 1 [.int .u64 start])) (hb : σ b = some (.row 1 [.mp mid])) {Lm : List (En Ky Bool)} {clk : Nat} (hm : σ mid = some (.map (ens kyV bV Lm) clk)) (ho : ∀ k, (vw Lm k).getD false = own k)
    (la : a < n) (lb : b < n) (lm : mid < n) {Q : V → Sto → Nat → Prop} (hQ : ∀ σ' n', (∀ i, i < n → σ' i = σ i) → n ≤ n' → Q (.bool (cfP start own f)) σ' n') :
    run T (.raw 58 [faV f, .ptr a 1 0 0, .ptr b 1 0 0] σ n 0) (memQ Q) := by
  refine run_rawE (fn := g58) rfl rfl ?_
  simp only [g58, b58, oO, oN, mV, lD, gO, pP, qQ, cI, aR]
  have fk := f47 f.w
  rw [wrV_eq] at fk
  have hmg : mgetE false (.agg [.int, .int]) (.bool false) (some (ens kyV bV Lm)) (kyV (key f.w)) = some (.bool (own (key f.w))) := by
    rw [mget_ens (ve := bV) keyK false (.bool false) (key f.w) Lm, ← ho (key f.w)]
    cases vw Lm (key f.w) <;> rfl
  have a1 : (a = n) = False := by simp; omega
  have a2 : (b = n) = False := by simp; omega
  have a3 : (mid = n) = False := by simp; omega
  unfold cfP at hQ
  by_cases h1 : start < f.ts
  · rw [decide_eq_true h1, Bool.true_and] at hQ
    simp +contextual -implicitDefEqProofs (maxSteps := 2000000) only [↓wP, wQ, wQ1, wQ2, wQ3, wR, boxE, partsOf, ↓reduceIte, n1w, n2w, n3w, n4w, n5w, n6w, reduceCtorEq, i1w, i2w, i3w, i4w, i5w, faV_eq, ha, hb, hm, a1, a2, a3, h1, fk, hmg]
    exact hQ _ _ (fun i hi => by rw [upd_ne (by omega)]) (by omega)
  · rw [decide_eq_false h1, Bool.false_and] at hQ
    simp +contextual -implicitDefEqProofs (maxSteps := 2000000) only [↓wP, wQ, wQ1, wQ2, wQ3, wR, boxE, partsOf, ↓reduceIte, n1w, n2w, n3w, n4w, n5w, n6w, reduceCtorEq, i1w, i2w, i3w, i4w, i5w, faV_eq, ha, hb, hm, a1, a2, a3, h1]
    exact hQ _ _ (fun i hi => by rw [upd_ne (by omega)]) (by omega)
theorem raw94 (l : Option (List Fa)) (start : Int) (own : Ky → Bool) (a b mid n : Nat) (σ : Sto) (hl : (lst l).length ≤ 1000000) (ha : σ a = some (.row 1 [.int .u64 start])) (hb : σ b = some (.row 1 [.mp mid])) {Lm : List (En Ky Bool)} {clk : Nat} (hm : σ mid = some (.map (ens kyV bV Lm) clk)) (ho : ∀ k, (vw Lm k).getD false = own k)
    (la : a < n) (lb : b < n) (lm : mid < n) {Q : V → Sto → Nat → Prop} (hQ : ∀ σ' n', (∀ i, i < n → σ' i = σ i) → n ≤ n' → Q (.int .i64 (idxF (cfP start own) (lst l))) σ' n') :
    run T (.raw 94 [slV 5 faV l, .fn 58 [.ptr a 1 0 0, .ptr b 1 0 0]] σ n 0) (memQ Q) := by
  refine run_rawE (fn := g94) rfl rfl ?_
  simp only [g94, b94, oO, oN, mV, lD, gO, pP, qQ, cI, aR]
  simp +contextual -implicitDefEqProofs (maxSteps := 2000000) only [↓wP, wQ, wQ1, wQ2, wQ3, wR, boxE, partsOf, ↓reduceIte, n1w, n2w, n3w, n4w, n5w, n6w, reduceCtorEq, i1w, i2w, i3w, i4w, i5w]
  refine WC_for (lst l).length 0 (fun (j : Nat) env σ' n' => env 0 = slV 5 faV l ∧ env 1 = .fn 58 [.ptr a 1 0 0, .ptr b 1 0 0] ∧ n ≤ n' ∧ (∀ i, i < n → σ' i = σ i) ∧ (lst l).findIdx? (cfP start own) = (((lst l).drop j).findIdx? (cfP start own)).map (· + j)) (by omega) (by decide) (by decide) (fun _ _ => rfl) (fun _ _ _ => rfl) ?_ ?_ _ _ _ rfl rfl ?_
  · intro j env σ' n' hj h1 h2 ⟨g1, g2, g3, g4, g5⟩
    simp only [vl_tmp] at h2
    have hx : (lst l)[j]? = some (lst l)[j] := List.getElem?_eq_getElem hj
    rw [List.drop_eq_getElem_cons hj, List.findIdx?_cons] at g5
    obtain ⟨x, hxx⟩ : ∃ x, x = (lst l)[j] := ⟨_, rfl⟩
    rw [← hxx] at hx g5
    have r := fun (Q : V → Sto → Nat → Prop) hQ => raw58 x start own a b mid n' σ' (by rw [g4 a la]; exact ha) (by rw [g4 b lb]; exact hb) (by rw [g4 mid lm]; exact hm) ho (by omega) (by omega) (by omega) (Q := Q) hQ
    rw [faV_eq] at r
    simp +contextual -implicitDefEqProofs (maxSteps := 2000000) only [↓wP, wQ, wQ1, wQ2, wQ3, wR, boxE, partsOf, ↓reduceIte, n1w, n2w, n3w, n4w, n5w, n6w, reduceCtorEq, i1w, i2w, i3w, i4w, i5w, h1, h2, g1, g2, hx, faV_eq]
    refine stepW_raw (by decide) (r _ (fun σ2 n2 k1 k2 => ?_))
    cases hq : cfP start own x
    · rw [hq] at g5
      simp only [Bool.false_eq_true, if_false, Option.map_map] at g5
      simp +contextual -implicitDefEqProofs (maxSteps := 2000000) only [↓wP, wQ, wQ1, wQ2, wQ3, wR, boxE, partsOf, ↓reduceIte, n1w, n2w, n3w, n4w, n5w, n6w, reduceCtorEq, i1w, i2w, i3w, i4w, i5w, h1, h2, g1, g2]
      refine ⟨by omega, fun i hi => by rw [k1 i (by omega)]; exact g4 i hi, ?_⟩
      rw [g5]
      congr 1
      funext i
      simp only [Function.comp]
      omega
    · rw [hq] at g5
      simp only [if_true, Option.map_some, Nat.zero_add] at g5
      have hi : idxF (cfP start own) (lst l) = (j : Int) := by unfold idxF; rw [g5]
      simp +contextual -implicitDefEqProofs (maxSteps := 2000000) only [↓wP, wQ, wQ1, wQ2, wQ3, wR, boxE, partsOf, ↓reduceIte, n1w, n2w, n3w, n4w, n5w, n6w, reduceCtorEq, i1w, i2w, i3w, i4w, i5w, h1, h2, g1, g2]
      rw [← hi]
      exact hQ _ _ (fun i hi => by rw [k1 i (by omega)]; exact g4 i hi) (by omega)
  · intro env σ' n' ⟨g1, g2, g3, g4, g5⟩ h1 h2
    rw [List.drop_length] at g5
    have hi : idxF (cfP start own) (lst l) = -1 := by unfold idxF; rw [g5]; rfl
    rw [hi] at hQ
    simp +contextual -implicitDefEqProofs (maxSteps := 2000000) only [↓wP, wQ, wQ1, wQ2, wQ3, wR, boxE, partsOf, ↓reduceIte, n1w, n2w, n3w, n4w, n5w, n6w, reduceCtorEq, i1w, i2w, i3w, i4w, i5w]
    exact hQ _ _ g4 g3
  · simp +contextual -implicitDefEqProofs (maxSteps := 2000000) only [↓wP, wQ, wQ1, wQ2, wQ3, wR, boxE, partsOf, ↓reduceIte, n1w, n2w, n3w, n4w, n5w, n6w, reduceCtorEq, i1w, i2w, i3w, i4w, i5w]
    simp
theorem raw57 (l : Option (List Fa)) (start : Int) (own : Ky → Bool) (a b mid n : Nat) (σ : Sto) (hl : (lst l).length ≤ 1000000) (ha : σ a = some (.row 1 [.int .u64 start])) (hb : σ b = some (.row 1 [.mp mid])) {Lm : List (En Ky Bool)} {clk : Nat} (hm : σ mid = some (.map (ens kyV bV Lm) clk)) (ho : ∀ k, (vw Lm k).getD false = own k)
    (la : a < n) (lb : b < n) (lm : mid < n) {Q : V → Sto → Nat → Prop} (hQ : ∀ σ' n', Q (.bool ((lst l).any (cfP start own))) σ' n') :
    run T (.raw 57 [slV 5 faV l, .fn 58 [.ptr a 1 0 0, .ptr b 1 0 0]] σ n 0) (memQ Q) := by
  refine run_rawE (fn := g57) rfl rfl ?_
  simp only [g57, b57, oO, oN, mV, lD, gO, pP, qQ, cI, aR]
  rw [← idxF_any] at hQ
  simp +contextual -implicitDefEqProofs (maxSteps := 2000000) only [↓wP, wQ, wQ1, wQ2, wQ3, wR, boxE, partsOf, ↓reduceIte, n1w, n2w, n3w, n4w, n5w, n6w, reduceCtorEq, i1w, i2w, i3w, i4w, i5w]
  refine stepW_raw (by decide) (raw94 l start own a b mid n σ hl ha hb hm ho la lb lm (fun σ2 n2 k1 k2 => ?_))
  simp +contextual -implicitDefEqProofs (maxSteps := 2000000) only [↓wP, wQ, wQ1, wQ2, wQ3, wR, boxE, partsOf, ↓reduceIte, n1w, n2w, n3w, n4w, n5w, n6w, reduceCtorEq, i1w, i2w, i3w, i4w, i5w]
  exact hQ _ _
def ownK (W : List Wr) (k : Ky) : Bool := W.any fun w => decide (key w = k)
theorem ownK_snoc (W : List Wr) (w : Wr) (k : Ky) : ownK (W ++ [w]) k = (ownK W k || decide (key w = k)) := by simp [ownK]
def cfE (l : List Fa) (w : List Wr) : Int := if rightF l = false then 280 else if rightW w = false then 260 else 0
def cfB (l : List Fa) (start : Int) (w : List Wr) : Bool := if cfE l w = 0 then l.any (cfP start (ownK w)) else false
theorem r21 (l : Option (List Fa)) (start : Int) (w : Option (List Wr)) (h : FitF (lst l)) (hw : FitW (lst w)) : res T 21 [slV 5 faV l, .int .u64 start, slV 4 wrV w] = some (.tup [.bool (cfB (lst l) start (lst w)), .int .i64 (cfE (lst l) (lst w))]) := by
  refine run_res (run_pure (fn := g21) rfl rfl (by decide) ?_)
  simp only [g21, b21, oO, oN, mV, lD, gO, pP, qQ, cI, aR]
  have f24' := f24 l h.sm
  have hl := h.1
  have hl2 := hw.1
  have f45' := f45 w ⟨by omega, fun x hx => by have := hw.2 x hx; unfold Sm; omega⟩
  have hm44 : T.mode 44 ≠ .raw := by decide
  unfold cfB cfE
  cases hrf : rightF (lst l)
  · rw [hrf] at f24'
    rw [if_neg (by decide)] at f24'
    have r := r44 280 (if rightW (lst w) = true then 0 else 260)
    rw [if_neg (show ¬ (280 : Int) = 0 by decide)] at r
    have z0 : ((280 : Int) != 0) = true := rfl
    simp +contextual -implicitDefEqProofs (maxSteps := 2000000) only [↓wP, wQ, wQ1, wQ2, wQ3, wR, boxE, partsOf, ↓reduceIte, n1w, n2w, n3w, n4w, n5w, n6w, reduceCtorEq, i1w, i2w, i3w, i4w, i5w, f24', f45', callE_eq hm44, frz_rf, rch_rf, r, z0]
    rfl
  rw [hrf] at f24'
  rw [if_pos rfl] at f24'
  cases hrw : rightW (lst w)
  · rw [hrw] at f45'
    rw [if_neg (by decide)] at f45'
    have r := r44 0 260
    rw [if_pos rfl] at r
    have z0 : ((260 : Int) != 0) = true := rfl
    simp +contextual -implicitDefEqProofs (maxSteps := 2000000) only [↓wP, wQ, wQ1, wQ2, wQ3, wR, boxE, partsOf, ↓reduceIte, n1w, n2w, n3w, n4w, n5w, n6w, reduceCtorEq, i1w, i2w, i3w, i4w, i5w, f24', f45', callE_eq hm44, frz_rf, rch_rf, r, z0]
    rfl
  rw [hrw] at f45'
  rw [if_pos rfl] at f45'
  have r := r44 0 0
  rw [if_pos rfl] at r
  have z0 : ((0 : Int) != 0) = false := rfl
  simp +contextual -implicitDefEqProofs (maxSteps := 2000000) only [↓wP, wQ, wQ1, wQ2, wQ3, wR, boxE, partsOf, ↓reduceIte, n1w, n2w, n3w, n4w, n5w, n6w, reduceCtorEq, i1w, i2w, i3w, i4w, i5w, f24', f45', callE_eq hm44, frz_rf, rch_rf, r, z0]
  refine WC_for (lst w).length 0 (fun (j : Nat) env σ n => env 0 = slV 5 faV l ∧ env 4 = .ptr 0 1 0 0 ∧ env 9 = .ptr 3 1 0 0 ∧ env 22 = slV 4 wrV w ∧ 4 ≤ n ∧ σ 0 = some (.row 1 [.int .u64 start]) ∧ σ 3 = some (.row 1 [.mp 2]) ∧ ∃ Lm clk, MOk Lm clk ∧ σ 2 = some (.map (ens kyV bV Lm) clk) ∧ ∀ k, (vw Lm k).getD false = ownK ((lst w).take j) k) (by omega) (by decide) (by decide) (fun _ _ => rfl) (fun _ _ _ => rfl) ?_ ?_ _ _ _ rfl rfl ?_
  · intro j env σ n hj h1 h2 ⟨g0, g1, g2, g3, g4, g5, g6, Lm, clk, m1, m2, m3⟩
    simp only [vl_tmp] at h2
    have hx : (lst w)[j]? = some (lst w)[j] := List.getElem?_eq_getElem hj
    have hos := ownK_snoc ((lst w).take j) (lst w)[j]
    rw [List.take_append_getElem hj] at hos
    generalize (lst w)[j] = x at *
    obtain ⟨σ1, hσ1⟩ : ∃ σ1, σ1 = upd (upd σ n (some (.row 4 [.agg [.int .i64 0, .int .u64 0, .bool false, .nilS]]))) n (some (.row 4 [.agg [.int .i64 x.c, .int .u64 x.id, .bool x.g, slV 1 i32V x.v]])) := ⟨_, rfl⟩
    have so : ∀ i, i < n → σ1 i = σ i := fun i hi => by rw [hσ1, upd_ne (by omega), upd_ne (by omega)]
    have sn : σ1 n = some (.row 4 [.agg [.int .i64 x.c, .int .u64 x.id, .bool x.g, slV 1 i32V x.v]]) := by rw [hσ1, upd_self]
    have s3 : σ1 3 = some (.row 1 [.mp 2]) := by rw [so _ (by omega)]; exact g6
    have s2 : σ1 2 = some (.map (ens kyV bV Lm) clk) := by rw [so _ (by omega)]; exact m2
    have s0 : σ1 0 = some (.row 1 [.int .u64 start]) := by rw [so _ (by omega)]; exact g5
    have pu := mupd_ens (ke := kyV) (ve := bV) (lk := 0) keyK m1 s2 (Nat.zero_le _) (key x) true (n + 1)
    have fk := f47 x
    rw [wrV_eq] at fk
    simp only [bV] at pu
    simp +contextual -implicitDefEqProofs (maxSteps := 2000000) only [↓wP, wQ, wQ1, wQ2, wQ3, wR, boxE, partsOf, ↓reduceIte, n1w, n2w, n3w, n4w, n5w, n6w, reduceCtorEq, i1w, i2w, i3w, i4w, i5w, h1, h2, g0, g1, g2, g3, hx, wrV_eq, ← hσ1, sn, s3, s0, fk, pu]
    refine ⟨by omega, _, _, mput_ok m1 _ _, rfl, fun k => ?_⟩
    rw [vw_mput, hos]
    by_cases e : k = key x
    · rw [if_pos e]; simp [e]
    · rw [if_neg e, m3]
      have : decide (key x = k) = false := by simp; exact fun h => e h.symm
      rw [this, Bool.or_false]
  · intro env σ n ⟨g0, g1, g2, g3, g4, g5, g6, Lm, clk, m1, m2, m3⟩ h1 h2
    rw [List.take_length] at m3
    simp +contextual -implicitDefEqProofs (maxSteps := 2000000) only [↓wP, wQ, wQ1, wQ2, wQ3, wR, boxE, partsOf, ↓reduceIte, n1w, n2w, n3w, n4w, n5w, n6w, reduceCtorEq, i1w, i2w, i3w, i4w, i5w, g0, g1, g2]
    refine stepW_raw (by decide) (raw57 l start (ownK (lst w)) 0 3 2 n σ (by omega) g5 g6 m2 m3 (by omega) (by omega) (by omega) (fun σ2 n2 => ?_))
    simp +contextual -implicitDefEqProofs (maxSteps := 2000000) only [↓wP, wQ, wQ1, wQ2, wQ3, wR, boxE, partsOf, ↓reduceIte, n1w, n2w, n3w, n4w, n5w, n6w, reduceCtorEq, i1w, i2w, i3w, i4w, i5w]
  · simp +contextual -implicitDefEqProofs (maxSteps := 2000000) only [↓wP, wQ, wQ1, wQ2, wQ3, wR, boxE, partsOf, ↓reduceIte, n1w, n2w, n3w, n4w, n5w, n6w, reduceCtorEq, i1w, i2w, i3w, i4w, i5w]
    exact ⟨[], 0, MOk.nil, rfl, fun k => rfl⟩
theorem f21 (l : Option (List Fa)) (start : Int) (w : Option (List Wr)) (h : FitF (lst l)) (hw : FitW (lst w)) (fs : Bool) (σ : Sto) (n lk : Nat) : callE T fs 21 [slV 5 faV l, .int .u64 start, slV 4 wrV w] σ n lk = some (.tup [.bool (cfB (lst l) start (lst w)), .int .i64 (cfE (lst l) (lst w))], σ, n) :=
  callE_tr (by decide) (r21 l start w h hw) (by simp [Tr, Tr_slV]) rfl fs σ n lk
end Go.Q.SB
end

section
/- What a transaction sees; the document's answers. -/
set_option linter.unusedSimpArgs false
set_option linter.unusedVariables false
namespace Go.Q.SB
open Go.Q Go.Sort
end Go.Q.SB
end

section
/- The layer does something. -/
set_option linter.unusedSimpArgs false
set_option linter.unusedVariables false
namespace Go.Q.SB
open Go.Q
def isTrue' : Option Out → Bool
  | some (.val (.bool true)) => true
  | _ => false
theorem isTrue_eq {o : Option Out} (h : isTrue' o = true) : o = some (.val (.bool true)) := by
  unfold isTrue' at h
  split at h
  · rfl
  · cases h
theorem r9 : res T 9 [] = some (.bool true) := by
  have h : isTrue' (exJob T 300 (.pure 9 [])) = true := by decide +kernel
  exact run_res (exJob_sound 300 _ _ (isTrue_eq h))
theorem f9 (fs : Bool) (σ : Sto) (n lk : Nat) : callE T fs 9 [] σ n lk = some (.bool true, σ, n) := callE_tr (by decide) r9 rfl rfl fs σ n lk
end Go.Q.SB
end

section
/- IdealSees. -/
set_option linter.unusedSimpArgs false
set_option linter.unusedVariables false
namespace Go.Q.SB
open Go.Q Go.Sort
open Nat renaming reduceEqDiff → n1w, reduceAdd → n2w, reduceSub → n3w, reduceLeDiff → n4w, reduceLT → n5w, reduceMul → n6w
open Int renaming reduceBNe → i1w, reduceBEq → i2w, reduceLT → i3w, reduceLE → i4w, reduceGT → i5w
def Few60 (l : List Fa) : Prop := l.length ≤ 100 ∧ ∀ f ∈ l, (lst f.w.v).length ≤ 1000000
theorem Few60.few {l : List Fa} (h : Few60 l) : Few l := ⟨by have := h.1; omega, h.2⟩
end Go.Q.SB
end

section
/- IdealSees, the law. -/
set_option linter.unusedSimpArgs false
set_option linter.unusedVariables false
namespace Go.Q.SB
open Go.Q Go.Sort
theorem cut_len (v : Vc) : (lst (cut v)).length ≤ 5 := by unfold cut; rw [lst_some, List.length_take]; omega
theorem few_len (x : Option (List Fa)) : (lst (cutFs x)).length ≤ 60 ∧ ∀ f ∈ lst (cutFs x), (lst f.w.v).length ≤ 5 := by
  unfold cutFs
  rw [lst_oL]
  refine ⟨by rw [List.length_map, List.length_take]; omega, fun f hf => ?_⟩
  obtain ⟨g, hg, rfl⟩ := List.mem_map.1 hf
  exact cut_len _
theorem few60 (x : Option (List Fa)) : Few60 (lst (cutFs x)) := ⟨by have := (few_len x).1; omega, fun f hf => by have := (few_len x).2 f hf; omega⟩
end Go.Q.SB
end

section
/- The arguments of seat 18's statements, as trees. -/
set_option linter.unusedSimpArgs false
set_option linter.unusedVariables false
set_option maxRecDepth 20000
namespace Go.Q.SB
open Go.Q Go.Proofs
def eI32 : Enc Try.prog 21 Int := Enc.int .i32 Try.underlying21
def eInt : Enc Try.prog 3 Int := Enc.int .i64 Try.underlying3
def eU64 : Enc Try.prog 26 Int := Enc.int .u64 Try.underlying26
def eBool : Enc Try.prog 4 Bool := Enc.bool Try.underlying4
def eVec : Enc Try.prog 39 (Option (List Int)) := Enc.slice eI32 Try.underlying39 1 (by kernel_rfl) (by decide) 4 (by kernel_rfl)
theorem okVec {o : Option (List Int)} (h : eVec.ok o) : (lst o).length < 4611686018427387904 := by
  cases o with
  | none => simp [lst]
  | some l =>
    obtain ⟨h1, h2, h3⟩ := h l rfl
    rw [reach_eq] at h2
    rw [lst_some]
    omega
def eWr : Enc Try.prog 41 Wr := Enc.map
  (Enc.struct (EncF.cons (off := 0) (sz := 1) eInt rfl (by kernel_rfl) (EncF.cons (sz := 1) eU64 rfl (by kernel_rfl) (EncF.cons (sz := 1) eBool rfl (by kernel_rfl) (EncF.cons (sz := 1) eVec rfl (by kernel_rfl) EncF.nil)))) Try.underlying41 (by kernel_rfl))
  (fun x => ⟨x.1, x.2.1, x.2.2.1, x.2.2.2.1⟩) wrV (fun r => Sm r.v) (fun a _ => by obtain ⟨a, b, c, d, u⟩ := a; cases d <;> rfl) (fun a h => by have := okVec h.2.2.2.1; unfold Sm; dsimp only at this ⊢; omega)
def eFa : Enc Try.prog 43 Fa := Enc.map
  (Enc.struct (EncF.cons (off := 0) (sz := 1) eU64 rfl (by kernel_rfl) (EncF.cons (sz := 4) eWr rfl (by kernel_rfl) EncF.nil)) Try.underlying43 (by kernel_rfl))
  (fun x => ⟨x.1, x.2.1⟩) faV (fun r => Sm r.w.v) (fun a _ => by obtain ⟨a, b, u⟩ := a; cases b; rfl) (fun a h => h.2.1)
def eFas : Enc Try.prog 22 (Option (List Fa)) := Enc.slice eFa Try.underlying22 5 (by kernel_rfl) (by decide) 56 (by kernel_rfl)
theorem okFas {o : Option (List Fa)} (h : eFas.ok o) : SmF o := by
  cases o with
  | none => exact ⟨by simp [lst], by simp [lst]⟩
  | some l =>
    obtain ⟨h1, h2, h3⟩ := h l rfl
    rw [reach_eq] at h2
    exact ⟨by rw [lst_some]; omega, fun r hr => h3 r hr⟩
end Go.Q.SB
end

section
/- Add: facts, and those of writes. -/
set_option linter.unusedSimpArgs false
set_option linter.unusedVariables false
namespace Go.Q.SB
open Go.Q
open Nat renaming reduceEqDiff → n1w, reduceAdd → n2w, reduceSub → n3w, reduceLeDiff → n4w, reduceLT → n5w, reduceMul → n6w
open Int renaming reduceBNe → i1w, reduceBEq → i2w, reduceLT → i3w, reduceLE → i4w, reduceGT → i5w
def mkF (ts : Int) (x : Wr) : Fa := ⟨ts, x⟩
def refE (l : List Fa) (ts : Int) (w : List Wr) : Int :=
  if ts ≤ lastT l ∨ 1099511627776 < ts then 181 else if (w.any fun x => x.g && !isB l (key x)) = true then 4 else if dimB (l ++ w.map (mkF ts)) = false then 151 else if 2000 < (l ++ w.map (mkF ts)).length then 6 else 0
def noneAt (l : List Fa) (w : List Wr) : Bool := w.any fun x => x.g && !isB l (key x)
theorem noneAt_snoc (l : List Fa) (w : List Wr) (x : Wr) : noneAt l (w ++ [x]) = (noneAt l w || (x.g && !isB l (key x))) := by simp [noneAt]
theorem noneAt_take {l : List Fa} {w : List Wr} {j : Nat} (h : noneAt l (w.take j) = true) : noneAt l w = true := by
  unfold noneAt at *
  rw [List.any_eq_true] at *
  obtain ⟨x, hx, h⟩ := h
  exact ⟨x, List.mem_of_mem_take hx, h⟩
theorem refE_eq (l : List Fa) (ts : Int) (w : List Wr) : refE l ts w = if ts ≤ lastT l ∨ 1099511627776 < ts then 181 else if noneAt l w = true then 4 else if dimB (l ++ w.map (mkF ts)) = false then 151 else if 2000 < (l ++ w.map (mkF ts)).length then 6 else 0 := rfl
theorem r48 (L : List Fa) (h : L.length * 56 ≤ LIM) : res T 48 [slV 5 faV (some L)] = some (.own 5 (L.map faV)) := by
  refine run_res (run_own (fn := g48) rfl rfl (by decide) ?_)
  simp only [g48, b48, oO, oN, mV, lD, gO, pP, qQ, cI, aR]
  have hl : (L.map faV).length * 56 ≤ LIM := by simpa [lst] using h
  simp +contextual -implicitDefEqProofs (maxSteps := 2000000) only [↓wP, wQ, wQ1, wQ2, wQ3, wR, boxE, partsOf, ↓reduceIte, n1w, n2w, n3w, n4w, n5w, n6w, reduceCtorEq, i1w, i2w, i3w, i4w, i5w, slV_some, hl, true_or]
  have := giv_row (σ := upd (upd (upd Sto.empty 0 (some (.row 5 []))) 0 none) 1 (some (.row 5 (L.map faV)))) (id := 1) (sz := 5) (xs := L.map faV) (by simp [upd])
    (fun x hx => by obtain ⟨t, -, rfl⟩ := List.mem_map.1 hx; cases ht : t.w.v <;> simp [faV, elemM, giv, slV, ht])
    (fun x hx c hc => by
      obtain ⟨t, -, rfl⟩ := List.mem_map.1 hx
      simp only [faV, V.cells, List.mem_cons, List.not_mem_nil, or_false] at hc
      rcases hc with rfl | rfl | rfl | rfl | rfl
      · rfl
      · rfl
      · rfl
      · rfl
      · cases t.w.v <;> rfl)
  simpa using this
theorem f48 (L : List Fa) (h : L.length * 56 ≤ LIM) (fs : Bool) (σ : Sto) (n lk : Nat) : callE T fs 48 [slV 5 faV (some L)] σ n lk = some (.ref n 0 (L.map faV).length 5, upd σ n (some (.row 5 (L.map faV))), n + 1) :=
  callE_own (by decide) (r48 L h) (by simp [Tr, Tr_slV]) (fun x hx => by obtain ⟨t, -, rfl⟩ := List.mem_map.1 hx; simp [faV, Nw, Nw_slV]) fs σ n lk
theorem r48n : res T 48 [slV 5 faV none] = some .nilS := by
  refine run_res (run_own (fn := g48) rfl rfl (by decide) ?_)
  simp only [g48, b48, oO, oN, mV, lD, gO, pP, qQ, cI, aR]
  simp +contextual -implicitDefEqProofs (maxSteps := 2000000) only [↓wP, wQ, wQ1, wQ2, wQ3, wR, boxE, partsOf, ↓reduceIte, n1w, n2w, n3w, n4w, n5w, n6w, reduceCtorEq, i1w, i2w, i3w, i4w, i5w, slV_none, Option.isNone_none]
  exact ⟨rfl, by simp [gids]⟩
theorem f48n (fs : Bool) (σ : Sto) (n lk : Nat) : callE T fs 48 [slV 5 faV none] σ n lk = some (.nilS, σ, n) := callE_tr (by decide) r48n (by simp [Tr, Tr_slV]) rfl fs σ n lk
def addE (l : List Fa) (ts : Int) (w : List Wr) : Int := if rightF l = false then 280 else if rightW w = false then 260 else refE l ts w
def addO (l : Option (List Fa)) (ts : Int) (w : List Wr) : Option (List Fa) := if addE (lst l) ts w = 0 then appO l (w.map (mkF ts)) else none
theorem t48 (o : Option (List Fa)) (h : FitF (lst o)) (σ : Sto) (n lk : Nat) : ∃ v σ' n', callE T true 48 [slV 5 faV o] σ n lk = some (v, σ', n') ∧ Pl σ' n n' 5 v (o.map (List.map faV)) ∧ n ≤ n' ∧ ∀ i, i < n → σ' i = σ i := by
  cases o with
  | none => exact ⟨_, _, _, f48n true σ n lk, rfl, Nat.le_refl _, fun _ _ => rfl⟩
  | some L => exact ⟨_, _, _, f48 L (by have := h.1; rw [lst_some] at this; unfold LIM; omega) true σ n lk, ⟨n, rfl, by rw [upd_self], Nat.le_refl _, by omega⟩, by omega, fun i hi => upd_ne (by omega)⟩
theorem callE_flat {f : Nat} {args ts : List V} {r : V} {σ : Sto} (hm : T.mode f ≠ .raw) (hts : args.mapM (frz σ 12) = some ts) (hr : res T f ts = some r) (hf : flat r = true) (fs : Bool) (n lk : Nat) :
    callE T fs f args σ n lk = some (thaw σ n r) := by
  rw [callE_eq hm, hts, callR_some, hr, retE_some, backE_flat hf]
theorem lst_map {α β : Type} (f : α → β) (o : Option (List α)) : lst (o.map (List.map f)) = (lst o).map f := by cases o <;> rfl
theorem appO_some {α : Type} (o : Option (List α)) (x : α) (xs : List α) : appO o (xs ++ [x]) = some (lst o ++ (xs ++ [x])) := by
  cases o with
  | none => cases xs <;> rfl
  | some l => rfl
theorem r50 (o : Option (List Fa)) (h : (lst o).length ≤ 3000000 ∧ ∀ f ∈ lst o, (lst f.w.v).length ≤ 1000000) : res T 50 [slV 5 faV o] = some (slV 5 faV o) := by
  refine run_res (run_pure (fn := g50) rfl rfl (by decide) ?_)
  simp only [g50, b50, oO, oN, mV, lD, gO, pP, qQ, cI, aR]
  have hl := h.1
  cases o with
  | none =>
    have f := f48n
    simp +contextual -implicitDefEqProofs (maxSteps := 2000000) only [↓wP, wQ, wQ1, wQ2, wQ3, wR, boxE, partsOf, ↓reduceIte, n1w, n2w, n3w, n4w, n5w, n6w, reduceCtorEq, i1w, i2w, i3w, i4w, i5w, f]
    refine WC_for 0 0 (fun _ env σ n => env 3 = .nilS) (by omega) (by decide) (by decide) (fun _ _ => rfl) (fun _ _ _ => rfl) (fun j _ _ _ hj => absurd hj (by omega)) ?_ _ _ _ rfl rfl rfl
    intro env σ n h3 h1 h2
    simp +contextual -implicitDefEqProofs (maxSteps := 2000000) only [↓wP, wQ, wQ1, wQ2, wQ3, wR, boxE, partsOf, ↓reduceIte, n1w, n2w, n3w, n4w, n5w, n6w, reduceCtorEq, i1w, i2w, i3w, i4w, i5w, h3]
    rfl
  | some L =>
    rw [lst_some] at hl h
    have f := f48 L (by unfold LIM; omega)
    have hml : (L.map faV).length = L.length := List.length_map _
    simp +contextual -implicitDefEqProofs (maxSteps := 2000000) only [↓wP, wQ, wQ1, wQ2, wQ3, wR, boxE, partsOf, ↓reduceIte, n1w, n2w, n3w, n4w, n5w, n6w, reduceCtorEq, i1w, i2w, i3w, i4w, i5w, f]
    refine WC_for (L.map faV).length 0 (fun (j : Nat) env σ n => env 3 = .ref 0 0 (L.map faV).length 5 ∧ σ 0 = some (.row 5 (L.map faV))) (by omega) (by decide) (by decide) (fun _ _ => rfl) (fun _ _ _ => rfl) ?_ ?_ _ _ _ rfl rfl ?_
    · intro j env σ n hj h1 h2 ⟨g1, g2⟩
      simp only [vl_tmp] at h2
      have hj' : j < L.length := by omega
      have hx : (L.map faV)[j]? = some (faV L[j]) := by rw [List.getElem?_map, List.getElem?_eq_getElem hj']; rfl
      have hset : (L.map faV).set j (faV L[j]) = L.map faV := by
        have : (L.map faV)[j] = faV L[j] := by simp
        rw [← this, List.set_getElem_self]
      have hv := h.2 _ (List.getElem_mem hj')
      generalize L[j] = x at *
      rw [faV_eq] at hx hset
      have f := f74 x.w.v hv
      simp +contextual -implicitDefEqProofs (maxSteps := 2000000) only [↓wP, wQ, wQ1, wQ2, wQ3, wR, boxE, partsOf, ↓reduceIte, n1w, n2w, n3w, n4w, n5w, n6w, reduceCtorEq, i1w, i2w, i3w, i4w, i5w, h1, h2, g1, g2, hj, hx, f, hset]
    · intro env σ n ⟨g1, g2⟩ h1 h2
      have hf := (Fz.ref (S := fun _ => True) (k := 11) g2 trivial (FzL.trees fa_fz.1 fa_fz.2)).1
      simp +contextual -implicitDefEqProofs (maxSteps := 2000000) only [↓wP, wQ, wQ1, wQ2, wQ3, wR, boxE, partsOf, ↓reduceIte, n1w, n2w, n3w, n4w, n5w, n6w, reduceCtorEq, i1w, i2w, i3w, i4w, i5w, g1, hf]
      rfl
    · exact ⟨rfl, by rw [upd_self]⟩
theorem r13 (l : Option (List Fa)) (ts : Int) (w : Option (List Wr)) (h : FitF (lst l)) (hw : FitW (lst w)) : res T 13 [slV 5 faV l, .int .u64 ts, slV 4 wrV w] = some (.tup [slV 5 faV (addO l ts (lst w)), .int .i64 (addE (lst l) ts (lst w))]) := by
  refine run_res (run_pure (fn := g13) rfl rfl (by decide) ?_)
  simp only [g13, b13, oO, oN, mV, lD, gO, pP, qQ, cI, aR]
  have f24' := f24 l h.sm
  have hsw : SmW w := ⟨by have := hw.1; omega, fun x hx => by have := hw.2 x hx; unfold Sm; omega⟩
  have f45' := f45 w hsw
  have f46' := f46 l h.sm.1
  have hl := h.1
  have hl2 := hw.1
  have hm44 : T.mode 44 ≠ .raw := by decide
  have hm49 : T.mode 49 ≠ .raw := by decide
  have hm50 : T.mode 50 ≠ .raw := by decide
  obtain ⟨E, hE⟩ : ∃ E, E = addE (lst l) ts (lst w) := ⟨_, rfl⟩
  obtain ⟨L, hL⟩ : ∃ L, L = addO l ts (lst w) := ⟨_, rfl⟩
  rw [← hE, ← hL]
  unfold addO at hL
  rw [← hE] at hL
  unfold addE at hE
  have bad : ∀ e : Int, e ≠ 0 → E = e → L = none := fun e h0 he => by rw [hL, if_neg (by rw [he]; exact h0)]
  have r44' := fun a b => r44 a b
  cases hrf : rightF (lst l)
  · rw [hrf] at hE f24'
    rw [if_pos rfl] at hE
    rw [if_neg (by decide)] at f24'
    have r := r44 280 (if rightW (lst w) = true then 0 else 260)
    rw [if_neg (show ¬ (280 : Int) = 0 by decide)] at r
    have z0 : ((280 : Int) != 0) = true := rfl
    simp +contextual -implicitDefEqProofs (maxSteps := 2000000) only [↓wP, wQ, wQ1, wQ2, wQ3, wR, boxE, partsOf, ↓reduceIte, n1w, n2w, n3w, n4w, n5w, n6w, reduceCtorEq, i1w, i2w, i3w, i4w, i5w, f24', f45', callE_eq hm44, frz_rf, rch_rf, r, z0]
    rw [bad 280 (by decide) hE, hE]
    rfl
  rw [hrf] at hE f24'
  rw [if_neg (by decide)] at hE
  rw [if_pos rfl] at f24'
  cases hrw : rightW (lst w)
  · rw [hrw] at hE f45'
    rw [if_pos rfl] at hE
    rw [if_neg (by decide)] at f45'
    have r := r44 0 260
    rw [if_pos rfl] at r
    have z0 : ((260 : Int) != 0) = true := rfl
    simp +contextual -implicitDefEqProofs (maxSteps := 2000000) only [↓wP, wQ, wQ1, wQ2, wQ3, wR, boxE, partsOf, ↓reduceIte, n1w, n2w, n3w, n4w, n5w, n6w, reduceCtorEq, i1w, i2w, i3w, i4w, i5w, f24', f45', callE_eq hm44, frz_rf, rch_rf, r, z0]
    rw [bad 260 (by decide) hE, hE]
    rfl
  rw [hrw] at hE f45'
  rw [if_neg (by decide), refE_eq] at hE
  rw [if_pos rfl] at f45'
  have r := r44 0 0
  rw [if_pos rfl] at r
  have z0 : ((0 : Int) != 0) = false := rfl
  by_cases b1 : ts ≤ lastT (lst l)
  · rw [if_pos (Or.inl b1)] at hE
    simp +contextual -implicitDefEqProofs (maxSteps := 2000000) only [↓wP, wQ, wQ1, wQ2, wQ3, wR, boxE, partsOf, ↓reduceIte, n1w, n2w, n3w, n4w, n5w, n6w, reduceCtorEq, i1w, i2w, i3w, i4w, i5w, f24', f45', f46', callE_eq hm44, frz_rf, rch_rf, r, z0, b1]
    rw [bad 181 (by decide) hE, hE]
    rfl
  by_cases b2 : 1099511627776 < ts
  · rw [if_pos (Or.inr b2)] at hE
    simp +contextual -implicitDefEqProofs (maxSteps := 2000000) only [↓wP, wQ, wQ1, wQ2, wQ3, wR, boxE, partsOf, ↓reduceIte, n1w, n2w, n3w, n4w, n5w, n6w, reduceCtorEq, i1w, i2w, i3w, i4w, i5w, f24', f45', f46', callE_eq hm44, frz_rf, rch_rf, r, z0, b1, b2]
    rw [bad 181 (by decide) hE, hE]
    rfl
  rw [if_neg (by omega)] at hE
  simp +contextual -implicitDefEqProofs (maxSteps := 2000000) only [↓wP, wQ, wQ1, wQ2, wQ3, wR, boxE, partsOf, ↓reduceIte, n1w, n2w, n3w, n4w, n5w, n6w, reduceCtorEq, i1w, i2w, i3w, i4w, i5w, f24', f45', f46', callE_eq hm44, frz_rf, rch_rf, r, z0, b1, b2]
  refine WC_cutB (fun env σ n => env 0 = slV 5 faV l ∧ env 1 = .int .u64 ts ∧ env 2 = slV 4 wrV w ∧ env 9 = .mp 1 ∧ 2 ≤ n ∧ ∃ Lm clk, MOk Lm clk ∧ σ 1 = some (.map (ens kyV bV Lm) clk) ∧ ∀ k, (vw Lm k).getD false = isB (lst l) k) ?_ ?_
  · refine WC_for (lst l).length 0 (fun (j : Nat) env σ n => env 0 = slV 5 faV l ∧ env 1 = .int .u64 ts ∧ env 2 = slV 4 wrV w ∧ env 33 = slV 5 faV l ∧ env 9 = .mp 1 ∧ 2 ≤ n ∧ ∃ Lm clk, MOk Lm clk ∧ σ 1 = some (.map (ens kyV bV Lm) clk) ∧ ∀ k, (vw Lm k).getD false = isB ((lst l).take j) k) (by omega) (by decide) (by decide) (fun _ _ => rfl) (fun _ _ _ => rfl) ?_ ?_ _ _ _ rfl rfl ?_
    · intro j env σ n hj h1 h2 ⟨g0, g1, g2, g3, g4, g5, Lm, clk, m1, m2, m3⟩
      simp only [vl_tmp] at h2
      have hx : (lst l)[j]? = some (lst l)[j] := List.getElem?_eq_getElem hj
      have hds := isB_snoc ((lst l).take j) (lst l)[j]
      rw [List.take_append_getElem hj] at hds
      generalize (lst l)[j] = x at *
      obtain ⟨σ1, hσ1⟩ : ∃ σ1, σ1 = upd (upd σ n (some (.row 5 [.agg [.int .u64 0, .int .i64 0, .int .u64 0, .bool false, .nilS]]))) n (some (.row 5 [.agg [.int .u64 x.ts, .int .i64 x.w.c, .int .u64 x.w.id, .bool x.w.g, slV 1 i32V x.w.v]])) := ⟨_, rfl⟩
      have so : ∀ i, i < n → σ1 i = σ i := fun i hi => by rw [hσ1, upd_ne (by omega), upd_ne (by omega)]
      have sn : σ1 n = some (.row 5 [.agg [.int .u64 x.ts, .int .i64 x.w.c, .int .u64 x.w.id, .bool x.w.g, slV 1 i32V x.w.v]]) := by rw [hσ1, upd_self]
      have s0 : σ1 1 = some (.map (ens kyV bV Lm) clk) := by rw [so 1 (by omega)]; exact m2
      have pu := mupd_ens (ke := kyV) (ve := bV) (lk := 0) keyK m1 s0 (Nat.zero_le _) (key x.w) (!x.w.g) (n + 1)
      have fk := f47 x.w
      rw [wrV_eq] at fk
      simp only [bV] at pu
      simp +contextual -implicitDefEqProofs (maxSteps := 2000000) only [↓wP, wQ, wQ1, wQ2, wQ3, wR, boxE, partsOf, ↓reduceIte, n1w, n2w, n3w, n4w, n5w, n6w, reduceCtorEq, i1w, i2w, i3w, i4w, i5w, h1, h2, g0, g1, g2, g3, g4, hx, faV_eq, ← hσ1, sn, s0, pu, fk]
      refine ⟨by omega, _, _, mput_ok m1 _ _, rfl, fun k => ?_⟩
      rw [vw_mput, hds]
      by_cases e : k = key x.w
      · rw [if_pos e, if_pos e.symm]; rfl
      · rw [if_neg e, if_neg (fun h => e h.symm)]; exact m3 k
    · intro env σ n ⟨g0, g1, g2, g3, g4, g5, Lm, clk, m1, m2, m3⟩ h1 h2
      rw [List.take_length] at m3
      exact ⟨rfl, rfl, g0, g1, g2, g4, g5, Lm, clk, m1, m2, m3⟩
    · exact ⟨rfl, rfl, rfl, rfl, rfl, Nat.le_refl _, [], 0, MOk.nil, rfl, fun k => rfl⟩
  · intro env σ n ⟨g0, g1, g2, g4, g5, Lm, clk, m1, m2, m3⟩
    obtain ⟨cv, σc, nc, t1, t2, t3, t4⟩ := t48 l h σ n 0
    simp +contextual -implicitDefEqProofs (maxSteps := 2000000) only [↓wP, wQ, wQ1, wQ2, wQ3, wR, boxE, partsOf, ↓reduceIte, n1w, n2w, n3w, n4w, n5w, n6w, reduceCtorEq, i1w, i2w, i3w, i4w, i5w, g0, g1, g2, g4, t1]
    have m2' : σc 1 = some (.map (ens kyV bV Lm) clk) := by rw [t4 1 (by omega)]; exact m2
    refine WC_for (lst w).length 0 (fun (j : Nat) env σ n => env 1 = .int .u64 ts ∧ env 9 = .mp 1 ∧ env 50 = slV 4 wrV w ∧ 2 ≤ n ∧ σ 1 = some (.map (ens kyV bV Lm) clk) ∧ noneAt (lst l) ((lst w).take j) = false ∧ ∃ v, env 12 = v ∧ Pl σ 2 n 5 v ((appO l (((lst w).take j).map (mkF ts))).map (List.map faV))) (by omega) (by decide) (by decide) (fun _ _ => rfl) (fun _ _ _ => rfl) ?_ ?_ _ _ _ rfl rfl ?_
    · clear g0 g1 g2 g4 g5 m2 m2' t1 t2 t3 t4
      intro j env σ n hj h1 h2 ⟨g1, g2, g3, g4, m2, g5, v, g6, g7⟩
      simp only [vl_tmp] at h2
      have hx : (lst w)[j]? = some (lst w)[j] := List.getElem?_eq_getElem hj
      have ht : (lst w).take (j + 1) = (lst w).take j ++ [(lst w)[j]] := (List.take_append_getElem hj).symm
      have hns := noneAt_snoc (lst l) ((lst w).take j) (lst w)[j]
      rw [← ht, g5, Bool.false_or] at hns
      have hno : noneAt (lst l) ((lst w).take (j + 1)) = true → noneAt (lst l) (lst w) = true := noneAt_take
      generalize (lst w)[j] = x at *
      have hc := g7.cells
      have hsp := spl g7
      have hap : (appO l (((lst w).take (j + 1)).map (mkF ts))).map (List.map faV) = some ((lst ((appO l (((lst w).take j).map (mkF ts))).map (List.map faV))) ++ [.agg [.int .u64 ts, .int .i64 x.c, .int .u64 x.id, .bool x.g, slV 1 i32V x.v]]) := by
        rw [ht, List.map_append, List.map_cons, List.map_nil, appO_some, Option.map_some, ← List.append_assoc, List.map_append, ← lst_appO]
        cases appO l (((lst w).take j).map (mkF ts)) <;> rfl
      have hlen : (lst ((appO l (((lst w).take j).map (mkF ts))).map (List.map faV))).length ≤ 2000000 := by
        rw [lst_map, List.length_map, lst_appO, List.length_append, List.length_map, List.length_take]; omega
      obtain ⟨σ1, hσ1⟩ : ∃ σ1, σ1 = upd (upd σ n (some (.row 4 [.agg [.int .i64 0, .int .u64 0, .bool false, .nilS]]))) n (some (.row 4 [.agg [.int .i64 x.c, .int .u64 x.id, .bool x.g, slV 1 i32V x.v]])) := ⟨_, rfl⟩
      have so : ∀ i, i < n → σ1 i = σ i := fun i hi => by rw [hσ1, upd_ne (by omega), upd_ne (by omega)]
      have sn : σ1 n = some (.row 4 [.agg [.int .i64 x.c, .int .u64 x.id, .bool x.g, slV 1 i32V x.v]]) := by rw [hσ1, upd_self]
      have s1 : σ1 1 = some (.map (ens kyV bV Lm) clk) := by rw [so 1 (by omega)]; exact m2
      have hmg : mgetE false (.agg [.int, .int]) (.bool false) (some (ens kyV bV Lm)) (kyV (key x)) = some (.bool (isB (lst l) (key x))) := by
        rw [mget_ens (ve := bV) keyK false (.bool false) (key x) Lm, ← m3 (key x)]
        cases vw Lm (key x) <;> rfl
      have fk := f47 x
      rw [wrV_eq] at fk
      have hv1 : ∀ off len s, v ≠ .ref 1 off len s := by
        intro off len s e
        subst e
        cases ho' : (appO l (((lst w).take j).map (mkF ts))).map (List.map faV) with
        | none => rw [ho'] at g7; cases g7
        | some xs => rw [ho'] at g7; obtain ⟨i, e, -, e2, -⟩ := g7; simp only [V.ref.injEq] at e; omega
      have go : ∀ (Q : Prop), Q → Q := fun Q h => h
      cases hg : x.g
      all_goals rw [hg] at hσ1 sn fk hns hap
      · simp +contextual -implicitDefEqProofs (maxSteps := 2000000) only [↓wP, wQ, wQ1, wQ2, wQ3, wR, boxE, partsOf, ↓reduceIte, n1w, n2w, n3w, n4w, n5w, n6w, reduceCtorEq, i1w, i2w, i3w, i4w, i5w, h1, h2, g1, g2, g3, g6, hx, wrV_eq, hg, ← hσ1, sn]
        refine stepW_app1 (m := 2) (n0 := n) (σ0 := σ) g7 (fun i a1 a2 => ?_) (by omega) (by omega) (Nat.zero_le _) ?_ (fun _ σ3 a1 a2 => ?_)
        · rw [upd_ne (by omega), so i a2]
        · unfold LIM; omega
        · have m2' : σ3 1 = some (.map (ens kyV bV Lm) clk) := by rw [a2 1 (by omega) hv1, upd_ne (by omega)]; exact s1
          simp +contextual -implicitDefEqProofs (maxSteps := 2000000) only [↓wP, wQ, wQ1, wQ2, wQ3, wR, boxE, partsOf, ↓reduceIte, n1w, n2w, n3w, n4w, n5w, n6w, reduceCtorEq, i1w, i2w, i3w, i4w, i5w, h1, h2, g1, g2, g3, hc, hsp]
          rw [hns, hap]
          exact ⟨m2', by simp, _, rfl, a1⟩
      · cases hb : isB (lst l) (key x)
        · rw [hb] at hmg hns
          have hE4 : E = 4 := by rw [hE, if_pos (hno (by rw [hns]; rfl))]
          simp +contextual -implicitDefEqProofs (maxSteps := 2000000) only [↓wP, wQ, wQ1, wQ2, wQ3, wR, boxE, partsOf, ↓reduceIte, n1w, n2w, n3w, n4w, n5w, n6w, reduceCtorEq, i1w, i2w, i3w, i4w, i5w, h1, h2, g1, g2, g3, g6, hx, wrV_eq, hg, ← hσ1, sn, s1, fk, hmg]
          rw [bad 4 (by decide) hE4, hE4]
          rfl
        · rw [hb] at hmg hns
          simp +contextual -implicitDefEqProofs (maxSteps := 2000000) only [↓wP, wQ, wQ1, wQ2, wQ3, wR, boxE, partsOf, ↓reduceIte, n1w, n2w, n3w, n4w, n5w, n6w, reduceCtorEq, i1w, i2w, i3w, i4w, i5w, h1, h2, g1, g2, g3, g6, hx, wrV_eq, hg, ← hσ1, sn, s1, fk, hmg]
          refine stepW_app1 (m := 2) (n0 := n) (σ0 := σ) g7 (fun i a1 a2 => ?_) (by omega) (by omega) (Nat.zero_le _) ?_ (fun _ σ3 a1 a2 => ?_)
          · rw [upd_ne (by omega), so i a2]
          · unfold LIM; omega
          · have m2' : σ3 1 = some (.map (ens kyV bV Lm) clk) := by rw [a2 1 (by omega) hv1, upd_ne (by omega)]; exact s1
            simp +contextual -implicitDefEqProofs (maxSteps := 2000000) only [↓wP, wQ, wQ1, wQ2, wQ3, wR, boxE, partsOf, ↓reduceIte, n1w, n2w, n3w, n4w, n5w, n6w, reduceCtorEq, i1w, i2w, i3w, i4w, i5w, h1, h2, g1, g2, g3, hc, hsp]
            rw [hns, hap]
            exact ⟨m2', by simp, _, rfl, a1⟩
    · clear g0 g1 g2 g4 g5 m2 m2' t1 t2 t3 t4
      intro env σ n ⟨g1', g2', g3', g4', m2, g1, v, g2, g3⟩ h1 h2
      rw [List.take_length] at g1 g3
      rw [if_neg (by rw [g1]; decide)] at hE
      obtain ⟨O, hO⟩ : ∃ O, O = appO l ((lst w).map (mkF ts)) := ⟨_, rfl⟩
      have hOl : lst O = lst l ++ (lst w).map (mkF ts) := by rw [hO, lst_appO]
      rw [← hOl] at hE
      rw [← hO] at hL g3
      have hfa : ∀ f ∈ lst O, (lst f.w.v).length ≤ 1000000 := fun f hf => by
        rw [hOl] at hf
        rcases List.mem_append.1 hf with hf | hf
        · exact h.2 f hf
        · obtain ⟨x, hx, rfl⟩ := List.mem_map.1 hf
          exact hw.2 x hx
      have hOn : (lst O).length ≤ 2000000 := by rw [hOl, List.length_append, List.length_map]; omega
      have hfr := g3.frz (by rw [lst_map]; exact fa_fz.1) (by rw [lst_map]; exact fa_fz.2)
      rw [slV_map] at hfr
      have hle : lenE v = some (.int .i64 ((lst O).length : Int)) := by
        cases hO2 : O with
        | none => rw [hO2] at g3; simp only [Option.map_none, Pl] at g3; subst g3; rfl
        | some xs => rw [hO2] at g3; obtain ⟨i, rfl, -⟩ := g3; rw [lenE_ref, List.length_map]; rfl
      have r49' := r49 O ⟨by omega, fun f hf => by have := hfa f hf; unfold Sm; omega⟩
      have hfm : [v].mapM (frz σ 12) = some [slV 5 faV O] := by simp only [List.mapM_cons, List.mapM_nil, hfr]; rfl
      have f49' := callE_flat hm49 hfm r49' rfl true n 0
      rw [thaw_bool] at f49'
      have r50' := r50 O ⟨by omega, hfa⟩
      obtain ⟨σ', f50', -⟩ := callE_sh' hm50 hfm r50' (fun σ n => by rw [thaw_slV]) n
      cases hd : dimB (lst O)
      · rw [hd] at f49' hE
        rw [if_pos rfl] at hE
        simp +contextual -implicitDefEqProofs (maxSteps := 2000000) only [↓wP, wQ, wQ1, wQ2, wQ3, wR, boxE, partsOf, ↓reduceIte, n1w, n2w, n3w, n4w, n5w, n6w, reduceCtorEq, i1w, i2w, i3w, i4w, i5w, g2, f49']
        rw [bad 151 (by decide) hE, hE]
        rfl
      · rw [hd] at f49' hE
        rw [if_neg (by decide)] at hE
        by_cases hn : 2000 < (lst O).length
        · have hn' : (2000 : Int) < ((lst O).length : Int) := by omega
          rw [if_pos hn] at hE
          simp +contextual -implicitDefEqProofs (maxSteps := 2000000) only [↓wP, wQ, wQ1, wQ2, wQ3, wR, boxE, partsOf, ↓reduceIte, n1w, n2w, n3w, n4w, n5w, n6w, reduceCtorEq, i1w, i2w, i3w, i4w, i5w, g2, f49', hle, hn']
          rw [bad 6 (by decide) hE, hE]
          rfl
        · have hn' : ¬ (2000 : Int) < ((lst O).length : Int) := by omega
          rw [if_neg hn] at hE
          rw [hE, if_pos rfl] at hL
          simp +contextual -implicitDefEqProofs (maxSteps := 2000000) only [↓wP, wQ, wQ1, wQ2, wQ3, wR, boxE, partsOf, ↓reduceIte, n1w, n2w, n3w, n4w, n5w, n6w, reduceCtorEq, i1w, i2w, i3w, i4w, i5w, g2, f49', hle, hn', f50']
          rw [hE, hL]
    · simp +contextual -implicitDefEqProofs (maxSteps := 2000000) only [↓wP, wQ, wQ1, wQ2, wQ3, wR, boxE, partsOf, ↓reduceIte, n1w, n2w, n3w, n4w, n5w, n6w, reduceCtorEq, i1w, i2w, i3w, i4w, i5w, g1, g4]
      refine ⟨by omega, m2', rfl, _, rfl, ?_⟩
      have e : appO l (([] : List Wr).map (mkF ts)) = l := by
        cases l with
        | none => rfl
        | some l => show some (l ++ []) = some l; rw [List.append_nil]
      simp only [List.map_nil] at e
      rw [e]
      cases hl0 : l with
      | none => rw [hl0] at t2; exact t2
      | some l' => rw [hl0] at t2; obtain ⟨i, e1, e2, e3, e4⟩ := t2; exact ⟨i, e1, e2, by omega, e4⟩
end Go.Q.SB
end

section
/- Add: plain laws. -/
set_option linter.unusedSimpArgs false
set_option linter.unusedVariables false
namespace Go.Q.SB
open Go.Q Go.Sort
end Go.Q.SB
end

section
/- IdealApart. -/
set_option linter.unusedSimpArgs false
set_option linter.unusedVariables false
namespace Go.Q.SB
open Go.Q Go.Sort
open Nat renaming reduceEqDiff → n1w, reduceAdd → n2w, reduceSub → n3w, reduceLeDiff → n4w, reduceLT → n5w, reduceMul → n6w
open Int renaming reduceBNe → i1w, reduceBEq → i2w, reduceLT → i3w, reduceLE → i4w, reduceGT → i5w
def lastE (l : List Fa) : Int := if rightF l = true then lastT l else 0
theorem r20 (l : Option (List Fa)) (h : FitF (lst l)) : res T 20 [slV 5 faV l] = some (.int .u64 (lastE (lst l))) := by
  refine run_res (run_pure (fn := g20) rfl rfl (by decide) ?_)
  simp only [g20, b20, oO, oN, mV, lD, gO, pP, qQ, cI, aR]
  have f24' := f24 l h.sm
  have f46' := f46 l h.sm.1
  unfold lastE
  cases hr : rightF (lst l)
  · rw [hr] at f24'
    rw [if_neg (by decide)] at f24'
    have z0 : ((280 : Int) != 0) = true := rfl
    simp +contextual -implicitDefEqProofs (maxSteps := 2000000) only [↓wP, wQ, wQ1, wQ2, wQ3, wR, boxE, partsOf, ↓reduceIte, n1w, n2w, n3w, n4w, n5w, n6w, reduceCtorEq, i1w, i2w, i3w, i4w, i5w, f24', z0]
  · rw [hr] at f24'
    rw [if_pos rfl] at f24'
    have z0 : ((0 : Int) != 0) = false := rfl
    simp +contextual -implicitDefEqProofs (maxSteps := 2000000) only [↓wP, wQ, wQ1, wQ2, wQ3, wR, boxE, partsOf, ↓reduceIte, n1w, n2w, n3w, n4w, n5w, n6w, reduceCtorEq, i1w, i2w, i3w, i4w, i5w, f24', f46', z0]
theorem f20 (l : Option (List Fa)) (h : FitF (lst l)) (fs : Bool) (σ : Sto) (n lk : Nat) : callE T fs 20 [slV 5 faV l] σ n lk = some (.int .u64 (lastE (lst l)), σ, n) :=
  callE_tr (by decide) (r20 l h) (by simp [Tr, Tr_slV]) rfl fs σ n lk
theorem f13 (l : Option (List Fa)) (ts : Int) (w : Option (List Wr)) (h : FitF (lst l)) (hw : FitW (lst w)) (fs : Bool) (σ : Sto) (n lk : Nat) :
    callE T fs 13 [slV 5 faV l, .int .u64 ts, slV 4 wrV w] σ n lk = some (.tup [slV 5 faV (addO l ts (lst w)), .int .i64 (addE (lst l) ts (lst w))], σ, n) :=
  callE_tr (by decide) (r13 l ts w h hw) (by simp [Tr, Tr_slV]) (by simp [Nw, Nw_slV]) fs σ n lk
end Go.Q.SB
end

section
/- Which facts are the same; facts but a collection's. -/
set_option linter.unusedSimpArgs false
set_option linter.unusedVariables false
namespace Go.Q.SB
open Go.Q Go.Sort
open Nat renaming reduceEqDiff → n1w, reduceAdd → n2w, reduceSub → n3w, reduceLeDiff → n4w, reduceLT → n5w, reduceMul → n6w
open Int renaming reduceBNe → i1w, reduceBEq → i2w, reduceLT → i3w, reduceLE → i4w, reduceGT → i5w
theorem r64 (f g : Fa) (hf : Sm f.w.v) : res T 64 [faV f, faV g] = some (.bool (sameF1 f g)) := by
  refine run_res (run_pure (fn := g64) rfl rfl (by decide) ?_)
  simp only [g64, b64, oO, oN, mV, lD, gO, pP, qQ, cI, aR]
  have e1 := f47 f.w
  have e2 := f47 g.w
  rw [wrV_eq] at e1 e2
  simp only [kyV, key] at e1 e2
  have fv := f42 f.w.v g.w.v (by unfold Sm at hf; omega)
  have hs : sameF1 f g = (f.ts == g.ts && ((f.w.c == g.w.c && f.w.id == g.w.id) && ((f.w.g == g.w.g) && (lst f.w.v == lst g.w.v)))) := by
    unfold sameF1 sameW1
    simp only [Bool.and_assoc]
  rw [hs]
  have he : eqCells [.int, .int] [.int .i64 f.w.c, .int .u64 f.w.id] [.int .i64 g.w.c, .int .u64 g.w.id] = some (f.w.c == g.w.c && f.w.id == g.w.id) := by
    simp only [eqCells, eqCell, Option.bind_some]
    cases h : (f.w.c == g.w.c) <;> simp [h] <;> simp_all
  cases k1 : (f.ts == g.ts)
  · simp +contextual -implicitDefEqProofs (maxSteps := 2000000) only [↓wP, wQ, wQ1, wQ2, wQ3, wR, boxE, partsOf, ↓reduceIte, n1w, n2w, n3w, n4w, n5w, n6w, reduceCtorEq, i1w, i2w, i3w, i4w, i5w, faV_eq, k1, Nat.mul_zero, Nat.le_refl]
  cases k2 : (f.w.c == g.w.c && f.w.id == g.w.id)
  · simp +contextual -implicitDefEqProofs (maxSteps := 2000000) only [↓wP, wQ, wQ1, wQ2, wQ3, wR, boxE, partsOf, ↓reduceIte, n1w, n2w, n3w, n4w, n5w, n6w, reduceCtorEq, i1w, i2w, i3w, i4w, i5w, faV_eq, k1, Nat.mul_zero, Nat.le_refl, e1, e2, he, k2]
  cases k3 : (f.w.g == g.w.g)
  · simp +contextual -implicitDefEqProofs (maxSteps := 2000000) only [↓wP, wQ, wQ1, wQ2, wQ3, wR, boxE, partsOf, ↓reduceIte, n1w, n2w, n3w, n4w, n5w, n6w, reduceCtorEq, i1w, i2w, i3w, i4w, i5w, faV_eq, k1, Nat.mul_zero, Nat.le_refl, e1, e2, he, k2, k3]
  simp +contextual -implicitDefEqProofs (maxSteps := 2000000) only [↓wP, wQ, wQ1, wQ2, wQ3, wR, boxE, partsOf, ↓reduceIte, n1w, n2w, n3w, n4w, n5w, n6w, reduceCtorEq, i1w, i2w, i3w, i4w, i5w, faV_eq, k1, Nat.mul_zero, Nat.le_refl, e1, e2, he, k2, k3, fv]
  rfl
theorem f64 (f g : Fa) (hf : Sm f.w.v) (fs : Bool) (σ : Sto) (n lk : Nat) : callE T fs 64 [faV f, faV g] σ n lk = some (.bool (sameF1 f g), σ, n) :=
  callE_tr (by decide) (r64 f g hf) (by simp [Tr, Tr_slV, faV_eq]) rfl fs σ n lk
theorem r63 (a b : Option (List Fa)) (ha : SmF a) (hb : SmF b) : res T 63 [slV 5 faV a, slV 5 faV b, .fn 64 []] = some (.bool (sameL sameF1 (lst a) (lst b))) := by
  refine run_res (run_pure (fn := g63) rfl rfl (by decide) ?_)
  simp only [g63, b63, oO, oN, mV, lD, gO, pP, qQ, cI, aR]
  have hla := ha.1
  have hlb := hb.1
  unfold sameL
  by_cases hlen : (lst a).length = (lst b).length
  · have hd : (((lst a).length : Int) != ((lst b).length : Int)) = false := by simp [hlen]
    rw [decide_eq_true hlen, Bool.true_and]
    simp +contextual -implicitDefEqProofs (maxSteps := 2000000) only [↓wP, wQ, wQ1, wQ2, wQ3, wR, boxE, partsOf, ↓reduceIte, n1w, n2w, n3w, n4w, n5w, n6w, reduceCtorEq, i1w, i2w, i3w, i4w, i5w, hd]
    refine WC_for (lst a).length 0 (fun (j : Nat) env σ n => env 1 = slV 5 faV b ∧ env 2 = .fn 64 [] ∧ env 15 = slV 5 faV a ∧ smU sameF1 (lst a) (lst b) j = true) (by omega) (by decide) (by decide) (fun _ _ => rfl) (fun _ _ _ => rfl) ?_ ?_ _ _ _ rfl rfl ?_
    · intro j env σ n hj h1 h2 ⟨g1, g2, g3, g4⟩
      simp only [vl_tmp] at h2
      have hx : (lst a)[j]? = some (lst a)[j] := List.getElem?_eq_getElem hj
      have hy : (lst b)[j]? = some (lst b)[j] := List.getElem?_eq_getElem (by omega)
      have hst := smU_step (p := sameF1) hj (by omega : j < (lst b).length)
      rw [g4, Bool.true_and] at hst
      have hvx := ha.2 _ (List.getElem_mem hj)
      have hno : sameF1 (lst a)[j] (lst b)[j] = false → smU sameF1 (lst a) (lst b) (lst a).length = false := fun hk => smU_no (by rw [hst, hk]) _ (by omega)
      generalize (lst a)[j] = x at *
      generalize (lst b)[j] = y at *
      have f := f64 x y hvx
      rw [faV_eq, faV_eq] at f
      have a1 : (n = n + 1) = False := by simp
      cases k5 : sameF1 x y
      · rw [k5] at f
        have hk := hno k5
        simp +contextual -implicitDefEqProofs (maxSteps := 2000000) only [↓wP, wQ, wQ1, wQ2, wQ3, wR, boxE, partsOf, ↓reduceIte, n1w, n2w, n3w, n4w, n5w, n6w, reduceCtorEq, i1w, i2w, i3w, i4w, i5w, h1, h2, g1, g2, g3, hx, hy, faV_eq, a1, f]
        rw [hk]
      · rw [k5] at f
        simp +contextual -implicitDefEqProofs (maxSteps := 2000000) only [↓wP, wQ, wQ1, wQ2, wQ3, wR, boxE, partsOf, ↓reduceIte, n1w, n2w, n3w, n4w, n5w, n6w, reduceCtorEq, i1w, i2w, i3w, i4w, i5w, h1, h2, g1, g2, g3, hx, hy, faV_eq, a1, f]
        rw [hst, k5]
    · intro env σ n ⟨g1, g2, g3, g4⟩ h1 h2
      simp +contextual -implicitDefEqProofs (maxSteps := 2000000) only [↓wP, wQ, wQ1, wQ2, wQ3, wR, boxE, partsOf, ↓reduceIte, n1w, n2w, n3w, n4w, n5w, n6w, reduceCtorEq, i1w, i2w, i3w, i4w, i5w]
      rw [g4]
    · simp +contextual -implicitDefEqProofs (maxSteps := 2000000) only [↓wP, wQ, wQ1, wQ2, wQ3, wR, boxE, partsOf, ↓reduceIte, n1w, n2w, n3w, n4w, n5w, n6w, reduceCtorEq, i1w, i2w, i3w, i4w, i5w]
      rfl
  · have hd : (((lst a).length : Int) != ((lst b).length : Int)) = true := by simp; omega
    rw [decide_eq_false hlen]
    simp +contextual -implicitDefEqProofs (maxSteps := 2000000) only [↓wP, wQ, wQ1, wQ2, wQ3, wR, boxE, partsOf, ↓reduceIte, n1w, n2w, n3w, n4w, n5w, n6w, reduceCtorEq, i1w, i2w, i3w, i4w, i5w, hd]
theorem f63 (a b : Option (List Fa)) (ha : SmF a) (hb : SmF b) (fs : Bool) (σ : Sto) (n lk : Nat) : callE T fs 63 [slV 5 faV a, slV 5 faV b, .fn 64 []] σ n lk = some (.bool (sameL sameF1 (lst a) (lst b)), σ, n) :=
  callE_tr (by decide) (r63 a b ha hb) (by simp [Tr, Tr_slV]) rfl fs σ n lk
theorem r25 (a b : Option (List Fa)) (ha : SmF a) (hb : SmF b) : res T 25 [slV 5 faV a, slV 5 faV b] = some (.bool (sameL sameF1 (lst a) (lst b))) := by
  refine run_res (run_pure (fn := g25) rfl rfl (by decide) ?_)
  simp only [g25, b25, oO, oN, mV, lD, gO, pP, qQ, cI, aR]
  have f := f63 a b ha hb
  simp +contextual -implicitDefEqProofs (maxSteps := 2000000) only [↓wP, wQ, wQ1, wQ2, wQ3, wR, boxE, partsOf, ↓reduceIte, n1w, n2w, n3w, n4w, n5w, n6w, reduceCtorEq, i1w, i2w, i3w, i4w, i5w, f]
theorem f25 (a b : Option (List Fa)) (ha : SmF a) (hb : SmF b) (fs : Bool) (σ : Sto) (n lk : Nat) : callE T fs 25 [slV 5 faV a, slV 5 faV b] σ n lk = some (.bool (sameL sameF1 (lst a) (lst b)), σ, n) :=
  callE_tr (by decide) (r25 a b ha hb) (by simp [Tr, Tr_slV]) rfl fs σ n lk
def dropF (c : Int) (l : List Fa) : List Fa := l.filter fun f => f.w.c != c
theorem dropLoop {env : Nat → V} {σ : Sto} {n d : Nat} {Q : Ex → St → Prop} (l : Option (List Fa)) (c : Int) (hl : (lst l).length ≤ 1000000)
    (hg : env 20 = .fn 97 [.box [slV 5 faV l], .box [.fn 66 [.box [.int .i64 c]]]]) (hd : env 7 = .ptr d 1 0 0) (hσ : σ d = some (.row 1 [.nilS])) (hdn : d < n)
    (hQ : ∀ σ' n' gv, n ≤ n' → σ' d = some (.row 1 [gv]) → Pl σ' n n' 5 gv (oL ((dropF c (lst l)).map faV)) → Q .normal ⟨env, σ', n', 0⟩) :
    WC T (.rangeF (.tmp 20) [21] (.reg [⟨some 8, none, .alloc (.agg [.int .u64 0, .int .i64 0, .int .u64 0, .bool false, .nilS])⟩, ⟨none, none, .store 5 (.tmp 8) (.tmp 21)⟩])
      (.block 1 (.reg [⟨some 22, none, .load false 1 (.tmp 7)⟩, ⟨some 23, none, .load true 5 (.tmp 8)⟩, ⟨some 24, none, .lit 5 [.tmp 23]⟩, ⟨some 25, none, .append 5 56 (.tmp 22) (.tmp 24)⟩, ⟨none, none, .store 1 (.tmp 7) (.tmp 25)⟩]))) env σ n 0 Q := by
  refine WC_rangeF hg (Nat.zero_le _) ?_
  generalize hA : AC.reg [⟨some 8, none, .alloc (.agg [.int .u64 0, .int .i64 0, .int .u64 0, .bool false, .nilS])⟩, ⟨none, none, .store 5 (.tmp 8) (.tmp 21)⟩] = asg
  generalize hB : AC.block 1 _ = bd
  refine run_mono _ _ _ (fun r ho => ?_) (that97 l 66 [.box [.int .i64 c]] (fun f => f.w.c != c) (fun j σ' n' => n < n' ∧ σ' n = some (.loop env [21] asg bd .ready none) ∧
    ∃ gv, σ' d = some (.row 1 [gv]) ∧ Pl σ' (n + 1) n' 5 gv (oL ((dropF c ((lst l).take j)).map faV))) n hl (fun f fs σ n lk => f66 f c fs σ n lk) ?_ ?_ ?_ _ _ ?_)
  · cases r <;> try exact ho.elim
    obtain ⟨e1, e3, gv, e4, e5⟩ := ho
    rw [List.take_length] at e5
    refine ⟨_, _, _, _, _, _, e3, by decide, ?_⟩
    refine hQ _ _ gv (by omega) (by rw [upd_ne (by omega)]; exact e4) ?_
    have := e5.loc (σ' := upd _ n none) (fun i hi _ => upd_ne (by omega)) (Nat.le_refl _)
    cases ho' : oL ((dropF c (lst l)).map faV) with
    | none => rw [ho'] at this; exact this
    | some xs => rw [ho'] at this; obtain ⟨i, f1, f2, f3, f4⟩ := this; exact ⟨i, f1, f2, by omega, f4⟩
  · rintro j σ' n' σ2 ⟨e1, e3, gv, e4, e5⟩ hσ2
    exact ⟨by omega, by rw [hσ2 n (by omega)]; exact e3, gv, by rw [hσ2 d (by omega)]; exact e4, e5.loc (fun i _ hi => hσ2 i (by omega)) (by omega)⟩
  · rintro j σ' n' hj ⟨e1, e3, gv, e4, e5⟩ hp
    refine ⟨e1, e3, gv, e4, ?_⟩
    have : dropF c ((lst l).take (j + 1)) = dropF c ((lst l).take j) := by
      unfold dropF
      rw [← List.take_append_getElem hj, List.filter_append]
      simp [hp]
    rw [this]
    exact e5
  · rintro j σ' n' hj ⟨e1, e3, gv, e4, e5⟩ hp
    have hst : dropF c ((lst l).take (j + 1)) = dropF c ((lst l).take j) ++ [(lst l)[j]] := by
      unfold dropF
      rw [← List.take_append_getElem hj, List.filter_append]
      simp [hp]
    have hlen : (dropF c ((lst l).take j)).length ≤ j := by
      unfold dropF
      have := List.length_filter_le (fun f : Fa => f.w.c != c) ((lst l).take j)
      rw [List.length_take] at this; omega
    generalize (lst l)[j] = r at *
    refine yieldW_go e3 rfl (Nat.zero_le _) ?_ (hd := ⟨by rw [← hA]; rfl, by rw [← hB]; rfl⟩)
    obtain ⟨LR, hLR⟩ : ∃ LR, LR = Ob.loop env [21] asg bd .ready none := ⟨_, rfl⟩
    obtain ⟨LB, hLB⟩ : ∃ LB, LB = Ob.loop env [21] asg bd .busy none := ⟨_, rfl⟩
    rw [← hLR] at e3 ⊢
    rw [← hLB]
    subst hA
    subst hB
    have a1 : (n = n') = False := by simp; omega
    have a2 : (d = n') = False := by simp; omega
    have a3 : (d = n) = False := by simp; omega
    have a4 : (n = d) = False := by simp; omega
    have a5 : (n' = n) = False := by simp; omega
    have a6 : (n' = d) = False := by simp; omega
    have b1 := e5.cells
    rw [faV_eq]
    obtain ⟨σ1, hσ1⟩ : ∃ σ1, σ1 = upd (upd (upd σ' n' (some (.row 5 [.agg [.int .u64 0, .int .i64 0, .int .u64 0, .bool false, .nilS]]))) n' (some (.row 5 [.agg [.int .u64 r.ts, .int .i64 r.w.c, .int .u64 r.w.id, .bool r.w.g, slV 1 i32V r.w.v]]))) n (some LB) := ⟨_, rfl⟩
    have s1 : ∀ i, i < n' → i ≠ n → σ1 i = σ' i := fun i hi hi2 => by rw [hσ1, upd_ne hi2, upd_ne (by omega), upd_ne (by omega)]
    have s2 : σ1 n' = some (.row 5 [.agg [.int .u64 r.ts, .int .i64 r.w.c, .int .u64 r.w.id, .bool r.w.g, slV 1 i32V r.w.v]]) := by rw [hσ1, upd_ne (by omega), upd_self]
    have s3 : σ1 n = some LB := by rw [hσ1, upd_self]
    have s4 : σ1 d = some (.row 1 [gv]) := by rw [s1 d (by omega) (by omega)]; exact e4
    have e5' := e5.loc (σ' := σ1) (n' := n') (fun i hi hi2 => s1 i hi2 (by omega)) (Nat.le_refl _)
    have hvn : ∀ i, i ≤ n → ∀ off len s, gv ≠ .ref i off len s := by
      intro i hi off len s e
      subst e
      cases ho' : oL ((dropF c ((lst l).take j)).map faV) with
      | none => rw [ho'] at e5; cases e5
      | some xs => rw [ho'] at e5; obtain ⟨i, e, -, e2, -⟩ := e5; simp only [V.ref.injEq] at e; omega
    have hsp := spl e5
    simp +contextual -implicitDefEqProofs (maxSteps := 2000000) only [↓wP, wQ, wQ1, wQ2, wQ3, wR, boxE, partsOf, ↓reduceIte, n1w, n2w, n3w, n4w, n5w, n6w, reduceCtorEq, i1w, i2w, i3w, i4w, i5w, bind_cons, bind_nil, hd, e3, e4, a1, a2, a3, a4, a5, a6, b1, ← hσ1, s2, s4]
    refine stepW_app1 (m := n + 1) (n0 := n') (σ0 := σ1) e5' (fun i _ hi => by rw [upd_ne (by omega)]) (by omega) (by omega) (Nat.zero_le _) ?_ (fun _ σ3 g1 g2 => ?_)
    · rw [lst_oL, List.length_map]; unfold LIM; omega
    · rw [lst_oL] at g1 ⊢
      have u1 : ∀ i, i ≤ n → σ3 i = σ1 i := fun i hi => by rw [g2 i (by omega) (hvn i hi), upd_ne (by omega)]
      have u2 : σ3 d = some (.row 1 [gv]) := by rw [u1 d (by omega)]; exact s4
      have u3 : σ3 n = some LB := by rw [u1 n (Nat.le_refl _)]; exact s3
      simp +contextual -implicitDefEqProofs (maxSteps := 2000000) only [↓wP, wQ, wQ1, wQ2, wQ3, wR, boxE, partsOf, ↓reduceIte, n1w, n2w, n3w, n4w, n5w, n6w, reduceCtorEq, i1w, i2w, i3w, i4w, i5w, bind_cons, bind_nil, hd, u2, u3, a3, a4, hsp]
      refine ⟨by omega, _, rfl, ?_⟩
      rw [hst, List.map_append]
      have e6 : oL ((dropF c ((lst l).take j)).map faV ++ [r].map faV) = some ((dropF c ((lst l).take j)).map faV ++ [.agg [.int .u64 r.ts, .int .i64 r.w.c, .int .u64 r.w.id, .bool r.w.g, slV 1 i32V r.w.v]]) := by
        cases dropF c ((lst l).take j) <;> rfl
      rw [e6]
      exact g1.loc (fun i hi _ => by rw [upd_ne (by omega), upd_ne (by omega)]) (by omega)
  · exact ⟨by omega, upd_self _ _ _, .nilS, by rw [upd_ne (by omega)]; exact hσ, by simp [oL, Pl, dropF]⟩
def drO (l : List Fa) (c : Int) : List Fa := if stE l c = 0 then dropF c l else []
theorem c65b {σ : Sto} {n : Nat} (l : Option (List Fa)) (c : Int) (h0 : σ 0 = some (.row 1 [.int .i64 c])) :
    ∃ σ', callE T true 65 [slV 5 faV l, .fn 66 [.ptr 0 1 0 0]] σ n 0 = some (.fn 97 [.box [slV 5 faV l], .box [.fn 66 [.box [.int .i64 c]]]], σ', n) ∧ ∀ i, i ≠ 0 → σ' i = σ i := by
  have m : [slV 5 faV l, V.fn 66 [.ptr 0 1 0 0]].mapM (frz σ 12) = some [slV 5 faV l, .fn 66 [.box [.int .i64 c]]] := by
    have x3 : frz σ 12 (.fn 66 [.ptr 0 1 0 0]) = some (.fn 66 [.box [.int .i64 c]]) := by
      simp only [frz, rowAt, h0, List.mapM_cons, List.mapM_nil, if_true, List.getElem?_cons_zero, Option.bind_some, V.cells, List.drop_zero]
      rfl
    simp only [List.mapM_cons, List.mapM_nil, x3, frz_slV]; rfl
  obtain ⟨σ', e1, e2⟩ := callE_sh' (by decide) m (r65 l (.fn 66 [.box [.int .i64 c]]) rfl rfl rfl) (fun σ n => rfl) n
  refine ⟨σ', e1, fun i hi => e2 i (fun hd => ?_)⟩
  simp only [List.flatMap_cons, List.flatMap_nil, rch_slV, List.nil_append, List.append_nil] at hd
  have x4 : rch σ 12 (.fn 66 [.ptr 0 1 0 0]) = [0] := by
    simp only [rch, rowAt, h0, List.flatMap_cons, List.flatMap_nil, if_true, List.getElem?_cons_zero, Option.map_some, Option.getD_some, V.cells, List.drop_zero, List.append_nil]
  rw [x4] at hd
  simp at hd
  exact hi hd
theorem r28 (l : Option (List Fa)) (c : Int) (h : FitF (lst l)) : res T 28 [slV 5 faV l, .int .i64 c] = some (.tup [slV 5 faV (oL (drO (lst l) c)), .int .i64 (stE (lst l) c)]) := by
  refine run_res (run_pure (fn := g28) rfl rfl (by decide) ?_)
  simp only [g28, b28, oO, oN, mV, lD, gO, pP, qQ, cI, aR]
  have f24' := f24 l h.sm
  have f59' := f59 c
  have hl := h.1
  have hm44 : T.mode 44 ≠ .raw := by decide
  unfold drO stE
  cases hrf : rightF (lst l)
  · rw [hrf] at f24'
    rw [if_neg (by decide)] at f24'
    have r := r44 280 (if collB c = true then 0 else 2)
    rw [if_neg (show ¬ (280 : Int) = 0 by decide)] at r
    have z0 : ((280 : Int) != 0) = true := rfl
    simp +contextual -implicitDefEqProofs (maxSteps := 2000000) only [↓wP, wQ, wQ1, wQ2, wQ3, wR, boxE, partsOf, ↓reduceIte, n1w, n2w, n3w, n4w, n5w, n6w, reduceCtorEq, i1w, i2w, i3w, i4w, i5w, f24', f59', callE_eq hm44, frz_rf, rch_rf, r, z0, Nat.mul_zero, Nat.le_refl]
    rfl
  rw [hrf] at f24'
  rw [if_pos rfl] at f24'
  cases hrw : collB c
  · rw [hrw] at f59'
    rw [if_neg (by decide)] at f59'
    have r := r44 0 2
    rw [if_pos rfl] at r
    have z0 : ((2 : Int) != 0) = true := rfl
    simp +contextual -implicitDefEqProofs (maxSteps := 2000000) only [↓wP, wQ, wQ1, wQ2, wQ3, wR, boxE, partsOf, ↓reduceIte, n1w, n2w, n3w, n4w, n5w, n6w, reduceCtorEq, i1w, i2w, i3w, i4w, i5w, f24', f59', callE_eq hm44, frz_rf, rch_rf, r, z0, Nat.mul_zero, Nat.le_refl]
    rfl
  rw [hrw] at f59'
  rw [if_pos rfl] at f59'
  have r := r44 0 0
  rw [if_pos rfl] at r
  have z0 : ((0 : Int) != 0) = false := rfl
  obtain ⟨σ0, hσ0⟩ : ∃ σ0, σ0 = upd (upd (upd Sto.empty 0 (some (.row 1 [.int .i64 c]))) 1 (some (.row 1 [.int .i64 0, .int .i64 0]))) 2 (some (.row 1 [.nilS])) := ⟨_, rfl⟩
  have t0 : σ0 0 = some (.row 1 [.int .i64 c]) := by rw [hσ0]; simp [upd]
  have t2 : σ0 2 = some (.row 1 [.nilS]) := by rw [hσ0]; simp [upd]
  obtain ⟨σa, a1, a2⟩ := c65b (n := 3) l c t0
  simp +contextual -implicitDefEqProofs (maxSteps := 2000000) only [↓wP, wQ, wQ1, wQ2, wQ3, wR, boxE, partsOf, ↓reduceIte, n1w, n2w, n3w, n4w, n5w, n6w, reduceCtorEq, i1w, i2w, i3w, i4w, i5w, f24', f59', callE_eq hm44, frz_rf, rch_rf, r, z0, Nat.mul_zero, Nat.le_refl, ← hσ0, a1]
  refine dropLoop (d := 2) l c (by omega) rfl rfl (by rw [a2 2 (by decide)]; exact t2) (by omega) (fun σ1 n1 gv e1 e2 e3 => ?_)
  have hfr := e3.frz (by rw [lst_oL]; exact fa_fz.1) (by rw [lst_oL]; exact fa_fz.2)
  rw [slV_oL] at hfr
  have hfm : [gv].mapM (frz σ1 12) = some [slV 5 faV (oL (dropF c (lst l)))] := by simp only [List.mapM_cons, List.mapM_nil, hfr]; rfl
  have hdl : (lst (oL (dropF c (lst l)))).length ≤ 3000000 ∧ ∀ f ∈ lst (oL (dropF c (lst l))), (lst f.w.v).length ≤ 1000000 := by
    rw [lst_oL]
    unfold dropF
    exact ⟨by have := List.length_filter_le (fun f : Fa => f.w.c != c) (lst l); omega, fun f hf => h.2 f (List.mem_filter.1 hf).1⟩
  obtain ⟨σ2, f50', -⟩ := callE_sh' (by decide : T.mode 50 ≠ .raw) hfm (r50 _ hdl) (fun σ n => by rw [thaw_slV]) n1
  have hgc := e3.cells
  simp +contextual -implicitDefEqProofs (maxSteps := 2000000) only [↓wP, wQ, wQ1, wQ2, wQ3, wR, boxE, partsOf, ↓reduceIte, n1w, n2w, n3w, n4w, n5w, n6w, reduceCtorEq, i1w, i2w, i3w, i4w, i5w, e2, hgc, f50']
theorem f28 (l : Option (List Fa)) (c : Int) (h : FitF (lst l)) (fs : Bool) (σ : Sto) (n lk : Nat) : callE T fs 28 [slV 5 faV l, .int .i64 c] σ n lk = some (.tup [slV 5 faV (oL (drO (lst l) c)), .int .i64 (stE (lst l) c)], σ, n) :=
  callE_tr (by decide) (r28 l c h) (by simp [Tr, Tr_slV]) (by simp [Nw, Nw_slV]) fs σ n lk
end Go.Q.SB
end

section
/- How many rows are stored. -/
set_option linter.unusedSimpArgs false
set_option linter.unusedVariables false
namespace Go.Q.SB
open Go.Q Go.Sort
open Nat renaming reduceEqDiff → n1w, reduceAdd → n2w, reduceSub → n3w, reduceLeDiff → n4w, reduceLT → n5w, reduceMul → n6w
open Int renaming reduceBNe → i1w, reduceBEq → i2w, reduceLT → i3w, reduceLE → i4w, reduceGT → i5w
def nx : List Fa → Int → Int → Option Int
  | [], _, _ => none
  | f :: l, c, id => if f.w.c = c ∧ f.w.id = id then some f.ts else nx l c id
def ok1 (c fl : Int) (f : Fa) (o : Option Int) : Bool := decide (f.w.c = c) && (!f.w.g && match o with | none => true | some t => decide (fl < t))
def stN (c fl : Int) : List Fa → Nat
  | [] => 0
  | f :: l => (if ok1 c fl f (nx l c f.w.id) = true then 1 else 0) + stN c fl l
theorem stN_le (c fl : Int) : ∀ l : List Fa, stN c fl l ≤ l.length
  | [] => Nat.le_refl _
  | f :: l => by have := stN_le c fl l; simp only [stN, List.length_cons]; split <;> omega
theorem stN_drop {c fl : Int} {l : List Fa} {j : Nat} (h : j < l.length) : stN c fl (l.drop j) = (if ok1 c fl l[j] (nx (l.drop (j + 1)) c l[j].w.id) = true then 1 else 0) + stN c fl (l.drop (j + 1)) := by
  rw [List.drop_eq_getElem_cons h]; rfl
theorem nx_drop {c id : Int} {l : List Fa} {j : Nat} (h : j < l.length) : nx (l.drop j) c id = if l[j].w.c = c ∧ l[j].w.id = id then some l[j].ts else nx (l.drop (j + 1)) c id := by
  rw [List.drop_eq_getElem_cons h]; rfl
theorem nx_snoc (c id : Int) (f : Fa) : ∀ l : List Fa, nx (l ++ [f]) c id = if (nx l c id).isSome = true then nx l c id else if f.w.c = c ∧ f.w.id = id then some f.ts else none
  | [] => by simp [nx]
  | g :: l => by
    have ih := nx_snoc c id f l
    rw [List.cons_append]
    simp only [nx]
    by_cases h : g.w.c = c ∧ g.w.id = id
    · simp only [if_pos h]; rfl
    · simp only [if_neg h]; exact ih
theorem nx_pos {c id : Int} : ∀ {l : List Fa}, (∀ f ∈ l, 1 ≤ f.ts) → ∀ t, nx l c id = some t → 1 ≤ t
  | [], _, t, h => by simp [nx] at h
  | g :: l, hl, t, h => by
    simp only [nx] at h
    split at h
    · simp only [Option.some.injEq] at h; subst h; exact hl g (List.mem_cons_self ..)
    · exact nx_pos (fun f hf => hl f (List.mem_cons_of_mem _ hf)) t h
theorem r67 (l : Option (List Fa)) : res T 67 [slV 5 faV l] = some (.fn 98 [.box [slV 5 faV l]]) := by
  refine run_res (run_pure (fn := g67) rfl rfl (by decide) ?_)
  simp only [g67, b67, oO, oN, mV, lD, gO, pP, qQ, cI, aR]
  simp +contextual -implicitDefEqProofs (maxSteps := 2000000) only [↓wP, wQ, wQ1, wQ2, wQ3, wR, boxE, partsOf, ↓reduceIte, n1w, n2w, n3w, n4w, n5w, n6w, reduceCtorEq, i1w, i2w, i3w, i4w, i5w]
theorem f67 {σ : Sto} {n : Nat} (l : Option (List Fa)) : ∃ σ', callE T true 67 [slV 5 faV l] σ n 0 = some (.fn 98 [.box [slV 5 faV l]], σ', n) ∧ ∀ i, σ' i = σ i := by
  have m : [slV 5 faV l].mapM (frz σ 12) = some [slV 5 faV l] := by simp only [List.mapM_cons, List.mapM_nil, frz_slV]; rfl
  obtain ⟨σ', e1, e2⟩ := callE_sh' (by decide) m (r67 l) (fun σ n => rfl) n
  refine ⟨σ', e1, fun i => e2 i (fun hd => ?_)⟩
  simp only [List.flatMap_cons, List.flatMap_nil, rch_slV, List.nil_append, List.append_nil] at hd
  simp at hd
theorem that98 (l : Option (List Fa)) (J : Nat → Sto → Nat → Prop) (lid : Nat) (hl : (lst l).length ≤ 1000000)
    (hy : ∀ j σ n (h : j < (lst l).length), J (j + 1) σ n → yieldW (run T) lid [.int .i64 (j : Int), faV (lst l)[j]] σ n 0 (fun y σ' n' => y = .bool true ∧ J j σ' n'))
    (σ0 : Sto) (n0 : Nat) (h0 : J (lst l).length σ0 n0) : run T (.raw 98 [.yld lid, .box [slV 5 faV l]] σ0 n0 0) (memQ fun _ σ' n' => J 0 σ' n') := by
  refine run_rawE (fn := g98) rfl rfl ?_
  simp only [g98, b98, oO, oN, mV, lD, gO, pP, qQ, cI, aR]
  have hw0 : IntKind.i64.wrap (((lst l).length : Int) - 1) = ((lst l).length : Int) - 1 := by rw [wrap_i64] <;> omega
  simp +contextual -implicitDefEqProofs (maxSteps := 2000000) only [↓wP, wQ, wQ1, wQ2, wQ3, wR, boxE, partsOf, ↓reduceIte, n1w, n2w, n3w, n4w, n5w, n6w, reduceCtorEq, i1w, i2w, i3w, i4w, i5w, hw0]
  refine WC_loopI 0 (fun (j : Nat) env σ n => j ≤ (lst l).length ∧ env 0 = .yld lid ∧ env 1 = .box [slV 5 faV l] ∧ env 3 = .int .i64 ((j : Int) - 1) ∧ J j σ n) (fun j => j) ?_ (lst l).length _ _ _ ⟨Nat.le_refl _, rfl, rfl, rfl, h0⟩
  intro j env σ n ⟨hj, g1, g2, g3, g4⟩
  cases j with
  | zero =>
    have hd : decide ((0 : Int) ≤ ((0 : Nat) : Int) - 1) = false := by decide
    simp +contextual -implicitDefEqProofs (maxSteps := 2000000) only [↓wP, wQ, wQ1, wQ2, wQ3, wR, boxE, partsOf, ↓reduceIte, n1w, n2w, n3w, n4w, n5w, n6w, reduceCtorEq, i1w, i2w, i3w, i4w, i5w, g1, g2, g3, hd]
    exact g4
  | succ j =>
    have hj1 : (((j + 1 : Nat) : Int) - 1) = (j : Int) := by omega
    rw [hj1] at g3
    have hd : decide ((0 : Int) ≤ (j : Int)) = true := by simp
    have hwj : IntKind.i64.wrap ((j : Int) - 1) = (j : Int) - 1 := by rw [wrap_i64] <;> omega
    have hx : (lst l)[j]? = some (lst l)[j] := List.getElem?_eq_getElem (by omega)
    have hn := hy j σ n (by omega) g4
    generalize (lst l)[j] = x at *
    rw [faV_eq] at hn
    simp +contextual -implicitDefEqProofs (maxSteps := 2000000) only [↓wP, wQ, wQ1, wQ2, wQ3, wR, boxE, partsOf, ↓reduceIte, n1w, n2w, n3w, n4w, n5w, n6w, reduceCtorEq, i1w, i2w, i3w, i4w, i5w, g1, g2, g3, hd, hx, faV_eq]
    refine stepW_yld (yieldW_mono (fun _ _ x => x) run_mono (fun y σ' n' ⟨hy1, hy2⟩ => ?_) hn)
    subst hy1
    simp +contextual -implicitDefEqProofs (maxSteps := 2000000) only [↓wP, wQ, wQ1, wQ2, wQ3, wR, boxE, partsOf, ↓reduceIte, n1w, n2w, n3w, n4w, n5w, n6w, reduceCtorEq, i1w, i2w, i3w, i4w, i5w, g1, g2, g3, hwj]
    exact ⟨j, by omega, by omega, rfl, hy2⟩
theorem storedLoop {env : Nat → V} {σ : Sto} {n : Nat} {Q : Ex → St → Prop} (l : Option (List Fa)) (c fl : Int) (hl : (lst l).length ≤ 1000000)
    (hg : env 26 = .fn 98 [.box [slV 5 faV l]]) (h4 : env 4 = .ptr 0 1 0 0) (h5 : env 5 = .ptr 1 1 0 0) (h9 : env 9 = .ptr 4 1 0 0) (h10 : env 10 = .ptr 5 1 0 0)
    (s0 : σ 0 = some (.row 1 [.int .i64 c])) (s01 : σ 1 = some (.row 1 [.int .u64 fl])) (s1 : σ 3 = some (.map (ens uV uV []) 0)) (s2 : σ 4 = some (.row 1 [.mp 3])) (s3 : σ 5 = some (.row 1 [.int .i64 0])) (hn : 6 ≤ n)
    (hQ : ∀ σ' n', n ≤ n' → σ' 5 = some (.row 1 [.int .i64 (stN c fl (lst l) : Int)]) → Q .normal ⟨env, σ', n', 0⟩) :
    WC T (.rangeF (.tmp 26) [27, 28] (.reg [⟨(some 12), none, .alloc (.agg [(.int .u64 0), (.int .i64 0), (.int .u64 0), (.bool false), .nilS])⟩, ⟨none, none, .store 5 (.tmp 12) (.tmp 28)⟩]) (.block 1 (.seq (.seq (.reg [⟨(some 29), none, .faddr (.tmp 12) 1⟩, ⟨(some 30), none, .faddr (.tmp 29) 0⟩, ⟨(some 31), none, .load false 1 (.tmp 30)⟩, ⟨(some 32), none, .load false 1 (.tmp 4)⟩, ⟨(some 33), none, .bin .neq (.tmp 31) (.tmp 32)⟩]) (.cond (.tmp 33) (.exit 1) .skip)) (.seq (.seq (.reg [⟨(some 35), none, .load false 1 (.tmp 9)⟩, ⟨(some 36), none, .faddr (.tmp 12) 1⟩, ⟨(some 37), none, .faddr (.tmp 36) 1⟩, ⟨(some 38), none, .load false 1 (.tmp 37)⟩, ⟨(some 39), none, .mget true (.one .int) (.int .u64 0) (.tmp 35) (.tmp 38)⟩, ⟨(some 34), none, .mov (.tmp 39)⟩, ⟨(some 40), none, .ext (.tmp 34) 0⟩, ⟨(some 41), none, .ext (.tmp 34) 1⟩, ⟨(some 13), none, .mov (.tmp 40)⟩, ⟨(some 14), none, .mov (.tmp 41)⟩]) (.seq (.reg [⟨(some 42), none, .faddr (.tmp 12) 1⟩, ⟨(some 43), none, .faddr (.tmp 42) 2⟩, ⟨(some 44), none, .load false 1 (.tmp 43)⟩, ⟨(some 45), none, .un .not (.tmp 44)⟩, ⟨(some 46), none, .mov (.tmp 45)⟩, ⟨(some 47), (some (46, true)), .mov (.tmp 14)⟩, ⟨(some 48), (some (46, true)), .un .not (.tmp 47)⟩, ⟨(some 49), (some (46, true)), .mov (.tmp 48)⟩, ⟨(some 50), (some (49, false)), .mov (.tmp 13)⟩, ⟨(some 51), (some (49, false)), .load false 1 (.tmp 5)⟩, ⟨(some 52), (some (49, false)), .bin .gtr (.tmp 50) (.tmp 51)⟩, ⟨(some 53), (some (46, true)), .pick (.tmp 49) (.con (.bool true)) (.tmp 52)⟩, ⟨(some 54), none, .pick (.tmp 46) (.tmp 53) (.con (.bool false))⟩]) (.cond (.tmp 54) (.reg [⟨(some 55), none, .load false 1 (.tmp 10)⟩, ⟨(some 56), none, .bin .add (.tmp 55) (.con (.int .i64 1))⟩, ⟨none, none, .store 1 (.tmp 10) (.tmp 56)⟩]) .skip))) (.reg [⟨(some 57), none, .load false 1 (.tmp 9)⟩, ⟨(some 58), none, .faddr (.tmp 12) 1⟩, ⟨(some 59), none, .faddr (.tmp 58) 1⟩, ⟨(some 60), none, .load false 1 (.tmp 59)⟩, ⟨(some 61), none, .faddr (.tmp 12) 0⟩, ⟨(some 62), none, .load false 1 (.tmp 61)⟩, ⟨none, none, .mupd (.one .int) (.tmp 57) (.tmp 60) (.tmp 62)⟩]))))) env σ n 0 Q := by
  refine WC_rangeF hg (Nat.zero_le _) ?_
  generalize hA : AC.reg [⟨some 12, none, .alloc _⟩, ⟨none, none, .store 5 (.tmp 12) (.tmp 28)⟩] = asg
  generalize hB : AC.block 1 _ = bd
  refine run_mono _ _ _ (fun o ho => ?_) (that98 l (fun j σ' n' => n < n' ∧ σ' n = some (.loop env [27, 28] asg bd .ready none) ∧ σ' 0 = some (.row 1 [.int .i64 c]) ∧ σ' 1 = some (.row 1 [.int .u64 fl]) ∧ σ' 4 = some (.row 1 [.mp 3]) ∧ σ' 5 = some (.row 1 [.int .i64 (stN c fl ((lst l).drop j) : Int)]) ∧
    ∃ Lm clk, MOk Lm clk ∧ σ' 3 = some (.map (ens uV uV Lm) clk) ∧ ∀ id, vw Lm id = nx ((lst l).drop j) c id) n hl ?_ _ _ ?_)
  · cases o <;> try exact ho.elim
    obtain ⟨e1, e2, d1, d2, e3, e4, -⟩ := ho
    refine ⟨_, _, _, _, _, _, e2, by decide, ?_⟩
    exact hQ _ _ (by omega) (by rw [upd_ne (by omega)]; exact e4)
  · rintro j σ' n' hj ⟨e1, e2, d1, d2, e3, e4, Lm, clk, m1, m2, m3⟩
    have hst := stN_drop (c := c) (fl := fl) hj
    have hnx := fun id => nx_drop (c := c) (id := id) hj
    have hlen := stN_le c fl ((lst l).drop (j + 1))
    rw [List.length_drop] at hlen
    generalize stN c fl ((lst l).drop (j + 1)) = N at *
    generalize stN c fl ((lst l).drop j) = M at *
    generalize nx ((lst l).drop (j + 1)) c = F at *
    generalize nx ((lst l).drop j) c = G at *
    generalize (lst l)[j] = x at *
    refine yieldW_go e2 rfl (Nat.zero_le _) ?_ (hd := ⟨by rw [← hA]; rfl, by rw [← hB]; rfl⟩)
    obtain ⟨LR, hLR⟩ : ∃ LR, LR = Ob.loop env [27, 28] asg bd .ready none := ⟨_, rfl⟩
    obtain ⟨LB, hLB⟩ : ∃ LB, LB = Ob.loop env [27, 28] asg bd .busy none := ⟨_, rfl⟩
    rw [← hLR] at e2 ⊢
    rw [← hLB]
    subst hA
    subst hB
    have a1 : (0 = n) = False := by simp; omega
    have a2 : (n = 0) = False := by simp; omega
    have a3 : (0 = n') = False := by simp; omega
    have a4 : (n' = 0) = False := by simp; omega
    have a5 : (1 = n) = False := by simp; omega
    have a6 : (n = 1) = False := by simp; omega
    have a7 : (1 = n') = False := by simp; omega
    have a8 : (n' = 1) = False := by simp; omega
    have a9 : (3 = n) = False := by simp; omega
    have a10 : (n = 3) = False := by simp; omega
    have a11 : (3 = n') = False := by simp; omega
    have a12 : (n' = 3) = False := by simp; omega
    have a13 : (4 = n) = False := by simp; omega
    have a14 : (n = 4) = False := by simp; omega
    have a15 : (4 = n') = False := by simp; omega
    have a16 : (n' = 4) = False := by simp; omega
    have a17 : (5 = n) = False := by simp; omega
    have a18 : (n = 5) = False := by simp; omega
    have a19 : (5 = n') = False := by simp; omega
    have a20 : (n' = 5) = False := by simp; omega
    have a21 : (n = n') = False := by simp; omega
    have a22 : (n' = n) = False := by simp; omega
    have a23 : ((0 : Nat) = 3) = False := by simp
    have a24 : ((0 : Nat) = 5) = False := by simp
    have a25 : ((1 : Nat) = 3) = False := by simp
    have a26 : ((1 : Nat) = 5) = False := by simp
    have a27 : ((3 : Nat) = 5) = False := by simp
    have a28 : ((4 : Nat) = 3) = False := by simp
    have a29 : ((4 : Nat) = 5) = False := by simp
    have a30 : ((5 : Nat) = 3) = False := by simp
    rw [faV_eq]
    by_cases hc : x.w.c = c
    · have hb : (x.w.c != c) = false := by simp [hc]
      have hmg : mgetE true (.one .int) (.int .u64 0) (some (ens uV uV Lm)) (.int .u64 x.w.id) = some (.tup [.int .u64 ((F x.w.id).getD 0), .bool (F x.w.id).isSome]) := by
        have := mget_ens (ve := uV) keyU true (.int .u64 0) x.w.id Lm
        simp only [uV] at this
        rw [this, m3]
        cases F x.w.id <;> rfl
      have pu := fun (σX : Sto) (h : σX 3 = some (.map (ens uV uV Lm) clk)) (nn : Nat) => mupd_ens (ke := uV) (ve := uV) (lk := 0) keyU m1 h (Nat.zero_le _) x.w.id x.ts nn
      simp only [uV] at pu
      have hnew : ∀ id, vw (mput Lm clk x.w.id x.ts).1 id = G id := by
        intro id
        rw [vw_mput, m3, hnx]
        by_cases e : id = x.w.id
        · rw [if_pos e, if_pos ⟨hc, e.symm⟩]
        · rw [if_neg e, if_neg (fun h => e h.2.symm)]
      have hwN : IntKind.i64.wrap ((N : Int) + 1) = (N : Int) + 1 := by rw [wrap_i64] <;> omega
      have hN1 : ((1 + N : Nat) : Int) = (N : Int) + 1 := by omega
      unfold ok1 at hst
      rw [decide_eq_true hc, Bool.true_and] at hst
      cases hg : x.w.g
      all_goals rw [hg] at hst
      · cases hv : F x.w.id with
        | none =>
          rw [hv] at hmg hst
          rw [if_pos (by rfl), ] at hst
          simp only [Option.getD_none, Option.isSome_none] at hmg
          simp +contextual -implicitDefEqProofs (maxSteps := 2000000) only [↓wP, wQ, wQ1, wQ2, wQ3, wR, boxE, partsOf, ↓reduceIte, n1w, n2w, n3w, n4w, n5w, n6w, reduceCtorEq, i1w, i2w, i3w, i4w, i5w, bind_cons, bind_nil, h4, h5, h9, h10, e2, d1, d2, e3, e4, m2, a1, a2, a3, a4, a5, a6, a7, a8, a9, a10, a11, a12, a13, a14, a15, a16, a17, a18, a19, a20, a21, a22, a23, a24, a25, a26, a27, a28, a29, a30, hb, hmg, hg, hwN, pu]
          exact ⟨by omega, by rw [hst, hN1], _, _, mput_ok m1 _ _, rfl, hnew⟩
        | some t =>
          rw [hv] at hmg hst
          simp only [Option.getD_some, Option.isSome_some] at hmg
          by_cases ht : fl < t
          · have hdt : decide (fl < t) = true := decide_eq_true ht
            simp only [hdt, Bool.not_false, Bool.and_self, if_true] at hst
            simp +contextual -implicitDefEqProofs (maxSteps := 2000000) only [↓wP, wQ, wQ1, wQ2, wQ3, wR, boxE, partsOf, ↓reduceIte, n1w, n2w, n3w, n4w, n5w, n6w, reduceCtorEq, i1w, i2w, i3w, i4w, i5w, bind_cons, bind_nil, h4, h5, h9, h10, e2, d1, d2, e3, e4, m2, a1, a2, a3, a4, a5, a6, a7, a8, a9, a10, a11, a12, a13, a14, a15, a16, a17, a18, a19, a20, a21, a22, a23, a24, a25, a26, a27, a28, a29, a30, hb, hmg, hg, hdt, hwN, pu]
            exact ⟨by omega, by rw [hst, hN1], _, _, mput_ok m1 _ _, rfl, hnew⟩
          · have hdt : decide (fl < t) = false := decide_eq_false ht
            simp only [hdt, Bool.and_false, Bool.false_eq_true, if_false, Nat.zero_add] at hst
            simp +contextual -implicitDefEqProofs (maxSteps := 2000000) only [↓wP, wQ, wQ1, wQ2, wQ3, wR, boxE, partsOf, ↓reduceIte, n1w, n2w, n3w, n4w, n5w, n6w, reduceCtorEq, i1w, i2w, i3w, i4w, i5w, bind_cons, bind_nil, h4, h5, h9, h10, e2, d1, d2, e3, e4, m2, a1, a2, a3, a4, a5, a6, a7, a8, a9, a10, a11, a12, a13, a14, a15, a16, a17, a18, a19, a20, a21, a22, a23, a24, a25, a26, a27, a28, a29, a30, hb, hmg, hg, hdt, hwN, pu]
            exact ⟨by omega, by rw [hst], _, _, mput_ok m1 _ _, rfl, hnew⟩
      · simp only [Bool.not_true, Bool.false_and, Bool.false_eq_true, if_false, Nat.zero_add] at hst
        simp +contextual -implicitDefEqProofs (maxSteps := 2000000) only [↓wP, wQ, wQ1, wQ2, wQ3, wR, boxE, partsOf, ↓reduceIte, n1w, n2w, n3w, n4w, n5w, n6w, reduceCtorEq, i1w, i2w, i3w, i4w, i5w, bind_cons, bind_nil, h4, h5, h9, h10, e2, d1, d2, e3, e4, m2, a1, a2, a3, a4, a5, a6, a7, a8, a9, a10, a11, a12, a13, a14, a15, a16, a17, a18, a19, a20, a21, a22, a23, a24, a25, a26, a27, a28, a29, a30, hb, hmg, hg, hwN, pu]
        exact ⟨by omega, by rw [hst], _, _, mput_ok m1 _ _, rfl, hnew⟩
    · have hb : (x.w.c != c) = true := by simp [hc]
      unfold ok1 at hst
      rw [decide_eq_false hc, Bool.false_and, if_neg (by decide), Nat.zero_add] at hst
      simp +contextual -implicitDefEqProofs (maxSteps := 2000000) only [↓wP, wQ, wQ1, wQ2, wQ3, wR, boxE, partsOf, ↓reduceIte, n1w, n2w, n3w, n4w, n5w, n6w, reduceCtorEq, i1w, i2w, i3w, i4w, i5w, bind_cons, bind_nil, h4, h5, h9, h10, e2, d1, d2, e3, e4, m2, a1, a2, a3, a4, a5, a6, a7, a8, a9, a10, a11, a12, a13, a14, a15, a16, a17, a18, a19, a20, a21, a22, a23, a24, a25, a26, a27, a28, a29, a30, hb]
      exact ⟨by omega, by rw [hst], _, _, m1, rfl, fun id => by rw [m3, hnx, if_neg (fun h => hc h.1)]⟩
  · refine ⟨by omega, upd_self _ _ _, by rw [upd_ne (by omega)]; exact s0, by rw [upd_ne (by omega)]; exact s01, by rw [upd_ne (by omega)]; exact s2, ?_, [], 0, MOk.nil, by rw [upd_ne (by omega)]; exact s1, fun id => ?_⟩
    · rw [upd_ne (by omega), List.drop_length]; exact s3
    · rw [List.drop_length]; rfl
end Go.Q.SB
end

section
/- How many rows are stored; a collection's facts dropped, by the document. -/
set_option linter.unusedSimpArgs false
set_option linter.unusedVariables false
namespace Go.Q.SB
open Go.Q Go.Sort
open Nat renaming reduceEqDiff → n1w, reduceAdd → n2w, reduceSub → n3w, reduceLeDiff → n4w, reduceLT → n5w, reduceMul → n6w
open Int renaming reduceBNe → i1w, reduceBEq → i2w, reduceLT → i3w, reduceLE → i4w, reduceGT → i5w
def stdN (l : List Fa) (c fl : Int) : Int := if stE l c = 0 then (stN c fl l : Int) else 0
theorem r30 (l : Option (List Fa)) (c fl : Int) (h : FitF (lst l)) : res T 30 [slV 5 faV l, .int .i64 c, .int .u64 fl] = some (.tup [.int .i64 (stdN (lst l) c fl), .int .i64 (stE (lst l) c)]) := by
  refine run_res (run_pure (fn := g30) rfl rfl (by decide) ?_)
  simp only [g30, b30, oO, oN, mV, lD, gO, pP, qQ, cI, aR]
  have f24' := f24 l h.sm
  have f59' := f59 c
  have hl := h.1
  have hm44 : T.mode 44 ≠ .raw := by decide
  unfold stdN stE
  cases hrf : rightF (lst l)
  · rw [hrf] at f24'
    rw [if_neg (by decide)] at f24'
    have r := r44 280 (if collB c = true then 0 else 2)
    rw [if_neg (show ¬ (280 : Int) = 0 by decide)] at r
    have z0 : ((280 : Int) != 0) = true := rfl
    simp +contextual -implicitDefEqProofs (maxSteps := 2000000) only [↓wP, wQ, wQ1, wQ2, wQ3, wR, boxE, partsOf, ↓reduceIte, n1w, n2w, n3w, n4w, n5w, n6w, reduceCtorEq, i1w, i2w, i3w, i4w, i5w, f24', f59', callE_eq hm44, frz_rf, rch_rf, r, z0, Nat.mul_zero, Nat.le_refl]
    rfl
  rw [hrf] at f24'
  rw [if_pos rfl] at f24'
  cases hrw : collB c
  · rw [hrw] at f59'
    rw [if_neg (by decide)] at f59'
    have r := r44 0 2
    rw [if_pos rfl] at r
    have z0 : ((2 : Int) != 0) = true := rfl
    simp +contextual -implicitDefEqProofs (maxSteps := 2000000) only [↓wP, wQ, wQ1, wQ2, wQ3, wR, boxE, partsOf, ↓reduceIte, n1w, n2w, n3w, n4w, n5w, n6w, reduceCtorEq, i1w, i2w, i3w, i4w, i5w, f24', f59', callE_eq hm44, frz_rf, rch_rf, r, z0, Nat.mul_zero, Nat.le_refl]
    rfl
  rw [hrw] at f59'
  rw [if_pos rfl] at f59'
  have r := r44 0 0
  rw [if_pos rfl] at r
  have z0 : ((0 : Int) != 0) = false := rfl
  obtain ⟨σ0, hσ0⟩ : ∃ σ0, σ0 = upd (upd (upd (upd (upd (upd (upd (upd Sto.empty 0 (some (.row 1 [.int .i64 c]))) 1 (some (.row 1 [.int .u64 fl]))) 2 (some (.row 1 [.int .i64 0, .int .i64 0]))) 3 (some (.map [] 0))) 4 (some (.row 1 [.nilM]))) 4 (some (.row 1 [.mp 3]))) 5 (some (.row 1 [.int .i64 0]))) 5 (some (.row 1 [.int .i64 0])) := ⟨_, rfl⟩
  have t0 : σ0 0 = some (.row 1 [.int .i64 c]) := by rw [hσ0]; simp [upd]
  have t01 : σ0 1 = some (.row 1 [.int .u64 fl]) := by rw [hσ0]; simp [upd]
  have t1 : σ0 3 = some (.map (ens uV uV []) 0) := by rw [hσ0]; simp [upd, ens]
  have t2 : σ0 4 = some (.row 1 [.mp 3]) := by rw [hσ0]; simp [upd]
  have t3 : σ0 5 = some (.row 1 [.int .i64 0]) := by rw [hσ0]; simp [upd]
  obtain ⟨σa, a1, a2⟩ := f67 (σ := σ0) (n := 6) l
  simp +contextual -implicitDefEqProofs (maxSteps := 2000000) only [↓wP, wQ, wQ1, wQ2, wQ3, wR, boxE, partsOf, ↓reduceIte, n1w, n2w, n3w, n4w, n5w, n6w, reduceCtorEq, i1w, i2w, i3w, i4w, i5w, f24', f59', callE_eq hm44, frz_rf, rch_rf, r, z0, Nat.mul_zero, Nat.le_refl, ← hσ0, a1]
  refine storedLoop l c fl hl rfl rfl rfl rfl rfl (by rw [a2]; exact t0) (by rw [a2]; exact t01) (by rw [a2]; exact t1) (by rw [a2]; exact t2) (by rw [a2]; exact t3) (by omega) (fun σ1 n1 e1 e2 => ?_)
  simp +contextual -implicitDefEqProofs (maxSteps := 2000000) only [↓wP, wQ, wQ1, wQ2, wQ3, wR, boxE, partsOf, ↓reduceIte, n1w, n2w, n3w, n4w, n5w, n6w, reduceCtorEq, i1w, i2w, i3w, i4w, i5w, e2]
theorem f30 (l : Option (List Fa)) (c fl : Int) (h : FitF (lst l)) (fs : Bool) (σ : Sto) (n lk : Nat) : callE T fs 30 [slV 5 faV l, .int .i64 c, .int .u64 fl] σ n lk = some (.tup [.int .i64 (stdN (lst l) c fl), .int .i64 (stE (lst l) c)], σ, n) :=
  callE_tr (by decide) (r30 l c fl h) (by simp [Tr, Tr_slV]) (by simp [Nw, Nw_slV]) fs σ n lk
theorem r29 (l : Option (List Fa)) (c : Int) (h : FitF (lst l)) : res T 29 [slV 5 faV l, .int .i64 c] = some (slV 5 faV (oL (dropF c ((lst l).map cpF)))) := by
  refine run_res (run_pure (fn := g29) rfl rfl (by decide) ?_)
  simp only [g29, b29, oO, oN, mV, lD, gO, pP, qQ, cI, aR]
  have f11' := f11 l h
  obtain ⟨k, hk⟩ : ∃ k, k = cpFs l := ⟨_, rfl⟩
  have hkl : lst k = (lst l).map cpF := by rw [hk]; unfold cpFs; rw [lst_oL]
  have hk1 : (lst k).length ≤ 1000000 := by rw [hkl, List.length_map]; exact h.1
  rw [← hk] at f11'
  rw [← hkl]
  simp +contextual -implicitDefEqProofs (maxSteps := 2000000) only [↓wP, wQ, wQ1, wQ2, wQ3, wR, boxE, partsOf, ↓reduceIte, n1w, n2w, n3w, n4w, n5w, n6w, reduceCtorEq, i1w, i2w, i3w, i4w, i5w, f11']
  refine WC_for (lst k).length 0 (fun (j : Nat) env σ n => env 1 = .int .i64 c ∧ env 9 = slV 5 faV k ∧ ∃ v, env 5 = v ∧ Pl σ 0 n 5 v (oL ((dropF c ((lst k).take j)).map faV))) (by omega) (by decide) (by decide) (fun _ _ => rfl) (fun _ _ _ => rfl) ?_ ?_ _ _ _ rfl rfl ?_
  · intro j env σ n hj h1 h2 ⟨h3, h3', v, h4, h5⟩
    simp only [vl_tmp] at h2
    have hx : (lst k)[j]? = some (lst k)[j] := List.getElem?_eq_getElem hj
    have ht : dropF c ((lst k).take (j + 1)) = dropF c ((lst k).take j) ++ (if (lst k)[j].w.c != c then [(lst k)[j]] else []) := by
      unfold dropF
      rw [← List.take_append_getElem hj, List.filter_append, List.filter_cons]
      rfl
    have hlen : (dropF c ((lst k).take j)).length ≤ j := by
      unfold dropF
      have := List.length_filter_le (fun f : Fa => f.w.c != c) ((lst k).take j)
      rw [List.length_take] at this; omega
    generalize (lst k)[j] = x at *
    have hc := h5.cells
    have hsp := spl h5
    obtain ⟨σ1, hσ1⟩ : ∃ σ1, σ1 = upd (upd σ n (some (.row 5 [.agg [.int .u64 0, .int .i64 0, .int .u64 0, .bool false, .nilS]]))) n (some (.row 5 [.agg [.int .u64 x.ts, .int .i64 x.w.c, .int .u64 x.w.id, .bool x.w.g, slV 1 i32V x.w.v]])) := ⟨_, rfl⟩
    have so : ∀ i, i < n → σ1 i = σ i := fun i hi => by rw [hσ1, upd_ne (by omega), upd_ne (by omega)]
    have sn : σ1 n = some (.row 5 [.agg [.int .u64 x.ts, .int .i64 x.w.c, .int .u64 x.w.id, .bool x.w.g, slV 1 i32V x.w.v]]) := by rw [hσ1, upd_self]
    cases h6 : x.w.c != c
    · rw [h6, if_neg (by decide), List.append_nil] at ht
      simp +contextual -implicitDefEqProofs (maxSteps := 2000000) only [↓wP, wQ, wQ1, wQ2, wQ3, wR, boxE, partsOf, ↓reduceIte, n1w, n2w, n3w, n4w, n5w, n6w, reduceCtorEq, i1w, i2w, i3w, i4w, i5w, h1, h2, h3, h3', h4, hx, faV_eq, h6, ← hσ1, sn]
      rw [ht]
      exact ⟨_, rfl, h5.loc (fun i a b => so i b) (by omega)⟩
    · rw [h6, if_pos rfl] at ht
      simp +contextual -implicitDefEqProofs (maxSteps := 2000000) only [↓wP, wQ, wQ1, wQ2, wQ3, wR, boxE, partsOf, ↓reduceIte, n1w, n2w, n3w, n4w, n5w, n6w, reduceCtorEq, i1w, i2w, i3w, i4w, i5w, h1, h2, h3, h3', h4, hx, faV_eq, h6, ← hσ1, sn]
      refine stepW_app1 (m := 0) (n0 := n) (σ0 := σ) h5 (fun i g1 g2 => ?_) (by omega) (by omega) (Nat.zero_le _) ?_ (fun _ σ2 g1 g2 => ?_)
      · rw [upd_ne (by omega), so i g2]
      · rw [lst_oL, List.length_map]; unfold LIM; omega
      · rw [lst_oL] at g1 ⊢
        simp +contextual -implicitDefEqProofs (maxSteps := 2000000) only [↓wP, wQ, wQ1, wQ2, wQ3, wR, boxE, partsOf, ↓reduceIte, n1w, n2w, n3w, n4w, n5w, n6w, reduceCtorEq, i1w, i2w, i3w, i4w, i5w, h1, h2, h3, h3', hc, hsp]
        refine ⟨_, rfl, ?_⟩
        rw [ht, List.map_append]
        have e2 : oL ((dropF c ((lst k).take j)).map faV ++ [faV x]) = some ((dropF c ((lst k).take j)).map faV ++ [faV x]) := by
          cases (dropF c ((lst k).take j)) <;> rfl
        simp only [List.map_cons, List.map_nil]
        rw [e2]
        exact g1
  · intro env σ n ⟨h3, h3', v, h4, h5⟩ h1 h2
    simp +contextual -implicitDefEqProofs (maxSteps := 2000000) only [↓wP, wQ, wQ1, wQ2, wQ3, wR, boxE, partsOf, ↓reduceIte, n1w, n2w, n3w, n4w, n5w, n6w, reduceCtorEq, i1w, i2w, i3w, i4w, i5w, h4]
    have hf := h5.frz (by rw [lst_oL]; exact fa_fz.1) (by rw [lst_oL]; exact fa_fz.2)
    rw [hf, slV_oL, List.take_length]
  · simp +contextual -implicitDefEqProofs (maxSteps := 2000000) only [↓wP, wQ, wQ1, wQ2, wQ3, wR, boxE, partsOf, ↓reduceIte, n1w, n2w, n3w, n4w, n5w, n6w, reduceCtorEq, i1w, i2w, i3w, i4w, i5w]
    simp [oL, Pl, dropF]
theorem f29 (l : Option (List Fa)) (c : Int) (h : FitF (lst l)) (fs : Bool) (σ : Sto) (n lk : Nat) : callE T fs 29 [slV 5 faV l, .int .i64 c] σ n lk = some (slV 5 faV (oL (dropF c ((lst l).map cpF))), σ, n) :=
  callE_tr (by decide) (r29 l c h) (by simp [Tr, Tr_slV]) (Nw_slV _ _ _ _) fs σ n lk
def okZ (c fl : Int) (f : Fa) (t : Int) : Bool := t == 0 || decide (fl < t)
theorem ok1_z {c fl : Int} {f : Fa} {o : Option Int} (hc : f.w.c = c) (hg : f.w.g = false) (ho : ∀ t, o = some t → 1 ≤ t) : ok1 c fl f o = okZ c fl f (o.getD 0) := by
  unfold ok1 okZ
  rw [decide_eq_true hc, hg]
  cases o with
  | none => rfl
  | some t => have := ho t rfl; have h0 : (t == 0) = false := by simp; omega
              simp [h0]
theorem r33 (l : Option (List Fa)) (c fl : Int) (hl : (lst l).length ≤ 1000000) (hp : ∀ f ∈ lst l, 1 ≤ f.ts) : res T 33 [slV 5 faV l, .int .i64 c, .int .u64 fl] = some (.int .i64 (stN c fl (lst l))) := by
  refine run_res (run_pure (fn := g33) rfl rfl (by decide) ?_)
  simp only [g33, b33, oO, oN, mV, lD, gO, pP, qQ, cI, aR]
  simp +contextual -implicitDefEqProofs (maxSteps := 2000000) only [↓wP, wQ, wQ1, wQ2, wQ3, wR, boxE, partsOf, ↓reduceIte, n1w, n2w, n3w, n4w, n5w, n6w, reduceCtorEq, i1w, i2w, i3w, i4w, i5w]
  refine WC_for (lst l).length 0 (fun (j : Nat) env σ n => env 0 = slV 5 faV l ∧ env 1 = .int .i64 c ∧ env 2 = .int .u64 fl ∧ env 13 = slV 5 faV l ∧ ∃ q : Nat, q ≤ j ∧ env 7 = .int .i64 (q : Int) ∧ q + stN c fl ((lst l).drop j) = stN c fl (lst l)) (by omega) (by decide) (by decide) (fun _ _ => rfl) (fun _ _ _ => rfl) ?_ ?_ _ _ _ rfl rfl ?_
  · intro j env σ n hj h1 h2 ⟨g1, g2, g3, g4, q, g5, g6, g7⟩
    simp only [vl_tmp] at h2
    have hx : (lst l)[j]? = some (lst l)[j] := List.getElem?_eq_getElem hj
    have hst := stN_drop (c := c) (fl := fl) hj
    obtain ⟨D, hD⟩ : ∃ D, D = (lst l).drop (j + 1) := ⟨_, rfl⟩
    have hDp : ∀ f ∈ D, 1 ≤ f.ts := fun f hf => hp f (List.mem_of_mem_drop (by rw [hD] at hf; exact hf))
    have hDl : D.length = (lst l).length - (j + 1) := by rw [hD, List.length_drop]
    have hls : l = some (lst l) := by cases l with
      | none => simp [lst] at hj
      | some L => rfl
    rw [← hD] at hst ⊢
    generalize (lst l)[j] = x at *
    have hwj : IntKind.i64.wrap ((j : Int) + 1) = ((j + 1 : Nat) : Int) := by rw [wrap_i64] <;> omega
    obtain ⟨σ1, hσ1⟩ : ∃ σ1, σ1 = upd (upd σ n (some (.row 5 [.agg [.int .u64 0, .int .i64 0, .int .u64 0, .bool false, .nilS]]))) n (some (.row 5 [.agg [.int .u64 x.ts, .int .i64 x.w.c, .int .u64 x.w.id, .bool x.w.g, slV 1 i32V x.w.v]])) := ⟨_, rfl⟩
    have sn : σ1 n = some (.row 5 [.agg [.int .u64 x.ts, .int .i64 x.w.c, .int .u64 x.w.id, .bool x.w.g, slV 1 i32V x.w.v]]) := by rw [hσ1, upd_self]
    cases h6 : x.w.c != c
    · have hcc : x.w.c = c := by simpa using h6
      cases hg : x.w.g
      · rw [hg] at sn hσ1
        rw [ok1_z hcc hg (fun t ht => nx_pos hDp t ht)] at hst
        have hle : j + 1 ≤ (lst l).length := hj
        obtain ⟨sD, hsD⟩ : ∃ sD, sD = sub l (j + 1) (lst l).length := ⟨_, rfl⟩
        have hlD : lst sD = D := by rw [hsD, hD, lst_sub, List.take_length]
        simp +contextual -implicitDefEqProofs (maxSteps := 2000000) only [↓wP, wQ, wQ1, wQ2, wQ3, wR, boxE, partsOf, ↓reduceIte, n1w, n2w, n3w, n4w, n5w, n6w, reduceCtorEq, i1w, i2w, i3w, i4w, i5w, h1, h2, g1, g2, g3, g4, g6, hx, faV_eq, h6, hg, ← hσ1, sn, hwj, hle, Nat.le_refl, if_pos, ← hsD]
        refine WC_for (lst sD).length 0 (fun (k : Nat) env' σ' n' => n < n' ∧ env' 0 = slV 5 faV l ∧ env' 1 = .int .i64 c ∧ env' 2 = .int .u64 fl ∧ env' 13 = slV 5 faV l ∧ env' 14 = .int .i64 (((lst l).length : Nat) : Int) ∧ env' 15 = .int .i64 (j : Int) ∧ env' 7 = .int .i64 (q : Int) ∧ env' 9 = .ptr n 5 0 0 ∧ σ' n = σ1 n ∧ env' 33 = slV 5 faV sD ∧ env' 10 = .int .u64 ((nx (D.take k) c x.w.id).getD 0)) (by rw [hlD]; omega) (by decide) (by decide) (fun _ _ => rfl) (fun _ _ _ => rfl) ?_ ?_ _ _ _ rfl rfl ?_
        · intro k env' σ' n' hk i1 i2 ⟨j1, j2, j3, j4, j5, j6, j7, j8, j9, ja, jb, jc⟩
          simp only [vl_tmp] at i2
          have hy : (lst sD)[k]? = some (lst sD)[k] := List.getElem?_eq_getElem hk
          have hkD : k < D.length := by rw [← hlD]; exact hk
          have hsn := nx_snoc c x.w.id D[k] (D.take k)
          rw [List.take_append_getElem hkD] at hsn
          have hpz := fun t ht => nx_pos (c := c) (id := x.w.id) (fun f hf => hDp f (List.mem_of_mem_take (i := k) hf)) t ht
          have hyD : (lst sD)[k] = D[k] := by simp only [hlD]
          rw [hyD] at hy
          generalize D[k] = y at *
          have a1 : (n = n') = False := by simp; omega
          rw [sn] at ja
          cases hz : nx (D.take k) c x.w.id with
          | none =>
            rw [hz] at hsn jc
            simp only [Option.getD_none, Option.isSome_none, Bool.false_eq_true, if_false] at hsn jc
            cases k1 : (y.w.c == c)
            · rw [if_neg (fun h => by rw [h.1] at k1; simp at k1)] at hsn
              simp +contextual -implicitDefEqProofs (maxSteps := 2000000) only [↓wP, wQ, wQ1, wQ2, wQ3, wR, boxE, partsOf, ↓reduceIte, n1w, n2w, n3w, n4w, n5w, n6w, reduceCtorEq, i1w, i2w, i3w, i4w, i5w, i1, i2, j2, j3, j4, j5, j6, j7, j8, j9, ja, jb, jc, hy, faV_eq, a1, k1, sn]
              rw [hsn]
              exact ⟨by omega, rfl⟩
            · have k1' : y.w.c = c := by simpa using k1
              cases k2 : (y.w.id == x.w.id)
              · rw [if_neg (fun h => by rw [h.2] at k2; simp at k2)] at hsn
                simp +contextual -implicitDefEqProofs (maxSteps := 2000000) only [↓wP, wQ, wQ1, wQ2, wQ3, wR, boxE, partsOf, ↓reduceIte, n1w, n2w, n3w, n4w, n5w, n6w, reduceCtorEq, i1w, i2w, i3w, i4w, i5w, i1, i2, j2, j3, j4, j5, j6, j7, j8, j9, ja, jb, jc, hy, faV_eq, a1, k1, k2, sn]
                rw [hsn]
                exact ⟨by omega, rfl⟩
              · have k2' : y.w.id = x.w.id := by simpa using k2
                rw [if_pos ⟨k1', k2'⟩] at hsn
                have k3 : ((0 : Int) == 0) = true := rfl
                simp +contextual -implicitDefEqProofs (maxSteps := 2000000) only [↓wP, wQ, wQ1, wQ2, wQ3, wR, boxE, partsOf, ↓reduceIte, n1w, n2w, n3w, n4w, n5w, n6w, reduceCtorEq, i1w, i2w, i3w, i4w, i5w, i1, i2, j2, j3, j4, j5, j6, j7, j8, j9, ja, jb, jc, hy, faV_eq, a1, k1, k2, k3, sn]
                rw [hsn]
                exact ⟨by omega, rfl⟩
          | some t =>
            have hpt := hpz t hz
            rw [hz] at hsn jc
            simp only [Option.getD_some, Option.isSome_some, if_true] at hsn jc
            have k3 : (t == 0) = false := by simp; omega
            cases k1 : (y.w.c == c)
            · simp +contextual -implicitDefEqProofs (maxSteps := 2000000) only [↓wP, wQ, wQ1, wQ2, wQ3, wR, boxE, partsOf, ↓reduceIte, n1w, n2w, n3w, n4w, n5w, n6w, reduceCtorEq, i1w, i2w, i3w, i4w, i5w, i1, i2, j2, j3, j4, j5, j6, j7, j8, j9, ja, jb, jc, hy, faV_eq, a1, k1, sn]
              rw [hsn]
              exact ⟨by omega, rfl⟩
            · cases k2 : (y.w.id == x.w.id)
              · simp +contextual -implicitDefEqProofs (maxSteps := 2000000) only [↓wP, wQ, wQ1, wQ2, wQ3, wR, boxE, partsOf, ↓reduceIte, n1w, n2w, n3w, n4w, n5w, n6w, reduceCtorEq, i1w, i2w, i3w, i4w, i5w, i1, i2, j2, j3, j4, j5, j6, j7, j8, j9, ja, jb, jc, hy, faV_eq, a1, k1, k2, sn]
                rw [hsn]
                exact ⟨by omega, rfl⟩
              · simp +contextual -implicitDefEqProofs (maxSteps := 2000000) only [↓wP, wQ, wQ1, wQ2, wQ3, wR, boxE, partsOf, ↓reduceIte, n1w, n2w, n3w, n4w, n5w, n6w, reduceCtorEq, i1w, i2w, i3w, i4w, i5w, i1, i2, j2, j3, j4, j5, j6, j7, j8, j9, ja, jb, jc, hy, faV_eq, a1, k1, k2, k3, sn]
                rw [hsn]
                exact ⟨by omega, rfl⟩
        · intro env' σ' n' ⟨j1, j2, j3, j4, j5, j6, j7, j8, j9, ja, jb, jc⟩ i1 i2
          have htk : D.take (lst sD).length = D := by rw [hlD, List.take_length]
          rw [htk] at jc
          have hwq : IntKind.i64.wrap ((q : Int) + 1) = ((q + 1 : Nat) : Int) := by rw [wrap_i64] <;> omega
          unfold okZ at hst
          generalize (nx D c x.w.id).getD 0 = z at *
          cases k1 : (z == 0)
          · rw [k1, Bool.false_or] at hst
            cases k2 : decide (fl < z)
            · rw [k2, if_neg (by decide)] at hst
              simp +contextual -implicitDefEqProofs (maxSteps := 2000000) only [↓wP, wQ, wQ1, wQ2, wQ3, wR, boxE, partsOf, ↓reduceIte, n1w, n2w, n3w, n4w, n5w, n6w, reduceCtorEq, i1w, i2w, i3w, i4w, i5w, j2, j3, j4, j5, j6, j7, j8, j9, jc, k1, k2]
              exact ⟨q, by omega, rfl, by omega⟩
            · rw [k2, if_pos rfl] at hst
              simp +contextual -implicitDefEqProofs (maxSteps := 2000000) only [↓wP, wQ, wQ1, wQ2, wQ3, wR, boxE, partsOf, ↓reduceIte, n1w, n2w, n3w, n4w, n5w, n6w, reduceCtorEq, i1w, i2w, i3w, i4w, i5w, j2, j3, j4, j5, j6, j7, j8, j9, jc, k1, k2, hwq]
              exact ⟨q + 1, by omega, rfl, by omega⟩
          · rw [k1, Bool.true_or, if_pos rfl] at hst
            simp +contextual -implicitDefEqProofs (maxSteps := 2000000) only [↓wP, wQ, wQ1, wQ2, wQ3, wR, boxE, partsOf, ↓reduceIte, n1w, n2w, n3w, n4w, n5w, n6w, reduceCtorEq, i1w, i2w, i3w, i4w, i5w, j2, j3, j4, j5, j6, j7, j8, j9, jc, k1, hwq]
            exact ⟨q + 1, by omega, rfl, by omega⟩
        · exact ⟨by omega, g1, g2, g3, g4, h2, h1, g6, rfl, rfl, rfl, rfl⟩
      · rw [hg] at sn hσ1
        have ho : ok1 c fl x (nx D c x.w.id) = false := by unfold ok1; rw [hg]; simp
        rw [ho, if_neg (by decide)] at hst
        simp +contextual -implicitDefEqProofs (maxSteps := 2000000) only [↓wP, wQ, wQ1, wQ2, wQ3, wR, boxE, partsOf, ↓reduceIte, n1w, n2w, n3w, n4w, n5w, n6w, reduceCtorEq, i1w, i2w, i3w, i4w, i5w, h1, h2, g1, g2, g3, g4, g6, hx, faV_eq, h6, hg, ← hσ1, sn]
        exact ⟨q, by omega, rfl, by omega⟩
    · have ho : ok1 c fl x (nx D c x.w.id) = false := by unfold ok1; rw [show decide (x.w.c = c) = false by simpa using h6]; rfl
      rw [ho, if_neg (by decide)] at hst
      simp +contextual -implicitDefEqProofs (maxSteps := 2000000) only [↓wP, wQ, wQ1, wQ2, wQ3, wR, boxE, partsOf, ↓reduceIte, n1w, n2w, n3w, n4w, n5w, n6w, reduceCtorEq, i1w, i2w, i3w, i4w, i5w, h1, h2, g1, g2, g3, g4, g6, hx, faV_eq, h6, ← hσ1, sn]
      exact ⟨q, by omega, rfl, by omega⟩
  · intro env σ n ⟨g1, g2, g3, g4, q, g5, g6, g7⟩ h1 h2
    rw [List.drop_length] at g7
    simp only [stN, Nat.add_zero] at g7
    simp +contextual -implicitDefEqProofs (maxSteps := 2000000) only [↓wP, wQ, wQ1, wQ2, wQ3, wR, boxE, partsOf, ↓reduceIte, n1w, n2w, n3w, n4w, n5w, n6w, reduceCtorEq, i1w, i2w, i3w, i4w, i5w, g6, g7]
  · exact ⟨rfl, rfl, rfl, rfl, 0, Nat.le_refl _, rfl, by rw [List.drop_zero, Nat.zero_add]⟩
theorem f33 (l : Option (List Fa)) (c fl : Int) (hl : (lst l).length ≤ 1000000) (hp : ∀ f ∈ lst l, 1 ≤ f.ts) (fs : Bool) (σ : Sto) (n lk : Nat) : callE T fs 33 [slV 5 faV l, .int .i64 c, .int .u64 fl] σ n lk = some (.int .i64 (stN c fl (lst l)), σ, n) :=
  callE_tr (by decide) (r33 l c fl hl hp) (by simp [Tr, Tr_slV]) (by simp [Nw, Nw_slV]) fs σ n lk
end Go.Q.SB
end

section
/- IdealTells. -/
set_option linter.unusedSimpArgs false
set_option linter.unusedVariables false
namespace Go.Q.SB
open Go.Q Go.Sort
open Nat renaming reduceEqDiff → n1w, reduceAdd → n2w, reduceSub → n3w, reduceLeDiff → n4w, reduceLT → n5w, reduceMul → n6w
open Int renaming reduceBNe → i1w, reduceBEq → i2w, reduceLT → i3w, reduceLE → i4w, reduceGT → i5w
theorem lst_cp (v : Vc) : lst (cp v) = lst v := rfl
theorem sameF_self (l : List Fa) : sameL sameF1 l l = true := by
  unfold sameL
  rw [decide_eq_true rfl, Bool.true_and]
  have : ∀ n, n ≤ l.length → smU sameF1 l l n = true := by
    intro n
    induction n with
    | zero => intro _; rfl
    | succ n ih =>
      intro h
      rw [smU_step (by omega) (by omega), ih (by omega)]
      simp [sameF1, sameW1]
  exact this _ (Nat.le_refl _)
theorem sameF_of {l m : List Fa} (h : l.map (fun f => (f.ts, (f.w.c, f.w.id, f.w.g, lst f.w.v))) = m.map (fun f => (f.ts, (f.w.c, f.w.id, f.w.g, lst f.w.v)))) : sameL sameF1 l m = true :=
  sameL_of (q := fun f : Fa => (f.ts, (f.w.c, f.w.id, f.w.g, lst f.w.v))) (fun a b h => by
    simp only [Prod.mk.injEq] at h
    unfold sameF1 sameW1
    simp [h]) h
theorem dropF_cp (c : Int) (l : List Fa) : sameL sameF1 (dropF c l) (dropF c (l.map cpF)) = true := by
  refine sameF_of ?_
  unfold dropF
  rw [List.filter_map, List.map_map]
  refine List.map_congr_left (fun f hf => ?_)
  simp [cpF, lst_cp]
theorem okU_ll {l : List Fa} : ∀ (n : Nat), okU l n = true → ∀ j (hj : j < l.length), j < n → oneF l j l[j] = true
  | 0, _, j, _, h => absurd h (by omega)
  | n + 1, hk, j, hj, h => by
    by_cases hn : n < l.length
    · have := okU_step hn hk
      by_cases e : j = n
      · subst e; exact this.2
      · exact okU_ll n this.1 j hj (by omega)
    · unfold okU at hk
      rw [Bool.and_eq_true] at hk
      exact okU_ll n hk.1 j hj (by omega)
theorem right_ts {l : List Fa} (h : rightF l = true) : ∀ f ∈ l, 1 ≤ f.ts := by
  unfold rightF at h
  simp only [Bool.and_eq_true] at h
  intro f hf
  obtain ⟨j, hj, rfl⟩ := List.mem_iff_getElem.1 hf
  have := okU_ll _ h.1.2 j hj hj
  unfold oneF one1 at this
  simp only [Bool.and_eq_true, decide_eq_true_eq] at this
  exact this.1.1.1.1
theorem fit_drop {l : Option (List Fa)} (c : Int) (h : FitF (lst l)) : SmF (oL (dropF c (lst l))) := by
  have h2 : FitF (lst (oL (dropF c (lst l)))) := by
    rw [lst_oL]
    unfold dropF
    exact ⟨by have := List.length_filter_le (fun f : Fa => f.w.c != c) (lst l); have := h.1; omega, fun f hf => h.2 f (List.mem_filter.1 hf).1⟩
  exact h2.sm
theorem fit_dropC {l : Option (List Fa)} (c : Int) (h : FitF (lst l)) : SmF (oL (dropF c ((lst l).map cpF))) := by
  have h2 : FitF (lst (oL (dropF c ((lst l).map cpF)))) := by
    rw [lst_oL]
    unfold dropF
    refine ⟨by have := List.length_filter_le (fun f : Fa => f.w.c != c) ((lst l).map cpF); rw [List.length_map] at this; have := h.1; omega, fun f hf => ?_⟩
    obtain ⟨g, hg, rfl⟩ := List.mem_map.1 (List.mem_filter.1 hf).1
    have := h.2 g hg
    simpa [cpF, lst_cp] using this
  exact h2.sm
def wantE (r k : Bool) : Int := if r = false then 280 else if k = false then 2 else 0
theorem stE_want (l : List Fa) (c : Int) : stE l c = wantE (rightF l) (collB c) := rfl
def fV (o : Option (List Fa)) : V := slV 5 faV o
theorem fVc (o : Option (List Fa)) : (fV o).cells = [slV 5 faV o] := by unfold fV; cases o <;> rfl
theorem r5 (xs : Option (List (Option (List Fa)))) (ts cs : Option (List Int)) (hxl : (lst xs).length < 4611686018427387904) (hx : ∀ x ∈ lst xs, SmF x) (htl : (lst ts).length < 4611686018427387904) (hcl : (lst cs).length < 4611686018427387904) : res T 5 [slV 1 fV xs, slV 1 uV ts, slV 1 iV cs] = some (.bool true) := by
  refine run_res (run_pure (fn := g5) rfl rfl (by decide) ?_)
  simp only [g5, b5, oO, oN, mV, lD, gO, pP, qQ, cI, aR]
  simp +contextual -implicitDefEqProofs (maxSteps := 2000000) only [↓wP, wQ, wQ1, wQ2, wQ3, wR, boxE, partsOf, ↓reduceIte, n1w, n2w, n3w, n4w, n5w, n6w, reduceCtorEq, i1w, i2w, i3w, i4w, i5w, f9]
  refine WC_for (lst xs).length 0 (fun (j : Nat) env σ n => env 0 = slV 1 fV xs ∧ env 1 = slV 1 uV ts ∧ env 2 = slV 1 iV cs ∧ env 27 = slV 1 fV xs) (by omega) (by decide) (by decide) (fun _ _ => rfl) (fun _ _ _ => rfl) ?_ ?_ _ _ _ rfl rfl ?_
  · intro j env σ n hj h1 h2 ⟨g1, g2, g3, g4⟩
    simp only [vl_tmp] at h2
    have hxj : (lst xs)[j]? = some (lst xs)[j] := List.getElem?_eq_getElem hj
    have hx0 : (lst xs)[0]? = some ((lst xs)[0]'(by omega)) := List.getElem?_eq_getElem (by omega)
    have hj0 : 0 < (lst xs).length := by omega
    have hsj := hx _ (List.getElem_mem hj)
    have hs0 := hx _ (List.getElem_mem hj0)
    generalize (lst xs)[j] = x at *
    generalize (lst xs)[0]'(by omega) = x0 at *
    by_cases h4 : j = 4
    · have hd : ((j : Int) == 4) = true := by rw [h4]; rfl
      simp +contextual -implicitDefEqProofs (maxSteps := 2000000) only [↓wP, wQ, wQ1, wQ2, wQ3, wR, boxE, partsOf, ↓reduceIte, n1w, n2w, n3w, n4w, n5w, n6w, reduceCtorEq, i1w, i2w, i3w, i4w, i5w, h1, h2, g1, g2, g3, g4, hxj, hd, fVc]
    have hd : ((j : Int) == 4) = false := by simp; omega
    have f10' := f10 x hsj
    have f10'' := f10 x0 hs0
    obtain ⟨l, hl⟩ : ∃ l, l = cutFs x := ⟨_, rfl⟩
    obtain ⟨m, hm⟩ : ∃ m, m = cutFs x0 := ⟨_, rfl⟩
    have hfew : Few (lst l) := by rw [hl]; exact (few60 x).few
    have hfew0 : Few (lst m) := by rw [hm]; exact (few60 x0).few
    have hl60 : (lst l).length ≤ 60 := by rw [hl]; exact (few_len x).1
    have hlv : ∀ f ∈ lst l, (lst f.w.v).length ≤ 5 := by rw [hl]; exact (few_len x).2
    rw [← hl] at f10'
    rw [← hm] at f10''
    have f15' := f15 l hfew.fit
    have f24' := f24 l hfew.fit.sm
    have f20' := f20 l hfew.fit
    have f26' := f26 l (by omega)
    have f25' := f25 l m hfew.fit.sm hfew0.fit.sm
    have f18' := f18 l m hfew.fit.sm hfew0.fit.sm
    have f25'' := f25 l l hfew.fit.sm hfew.fit.sm
    rw [sameF_self] at f25''
    have hSS : (sameL sameF1 (lst l) (lst m) != sameL sameF1 (lst l) (lst m)) = false := by simp
    generalize sameL sameF1 (lst l) (lst m) = S at *
    unfold lastE at f20'
    have z0 : ((0 : Int) == 0) = true := rfl
    have z1 : ((280 : Int) == 0) = false := rfl
    have z2 : ((280 : Int) != 280) = false := rfl
    have z3 : ((0 : Int) != 0) = false := rfl
    have z4 : ((2 : Int) == 0) = false := rfl
    have z5 : ((2 : Int) != 0) = true := rfl
    have z6 : ((280 : Int) != 0) = true := rfl
    have z7 : ((2 : Int) != 2) = false := rfl
    have z8 : (((0 : Nat) : Int) != 0) = false := rfl
    have zt : (lastT (lst l) != lastT (lst l)) = false := by simp
    have hon : lst (oL ([] : List Fa)) = [] := by rw [lst_oL]
    have honr : lst (oL ([] : List Rw)) = [] := by rw [lst_oL]
    have stE_w := stE_want (lst l)
    have hts : rightF (lst l) = true → ∀ f ∈ lst l, 1 ≤ f.ts := right_ts
    cases hR : rightF (lst l)
    · rw [hR] at f15' f24' f20' stE_w
      rw [if_neg (by decide)] at f24' f20'
      simp +contextual -implicitDefEqProofs (maxSteps := 2000000) only [↓wP, wQ, wQ1, wQ2, wQ3, wR, boxE, partsOf, ↓reduceIte, n1w, n2w, n3w, n4w, n5w, n6w, reduceCtorEq, i1w, i2w, i3w, i4w, i5w, h1, h2, g1, g2, g3, g4, hxj, hx0, hj0, hd, fVc, f10', f10'', f15', f24', f20', f26', f25', f18', f25'', hSS, z0, z1, z2, z3, zt]
      refine WC_for (lst cs).length 0 (fun (k : Nat) env' σ' n' => env' 0 = slV 1 fV xs ∧ env' 1 = slV 1 uV ts ∧ env' 2 = slV 1 iV cs ∧ env' 27 = slV 1 fV xs ∧ env' 28 = .int .i64 (((lst xs).length : Nat) : Int) ∧ env' 29 = .int .i64 (j : Int) ∧ env' 9 = slV 5 faV l ∧ env' 11 = .bool false ∧ env' 91 = slV 1 iV cs) (by omega) (by decide) (by decide) (fun _ _ => rfl) (fun _ _ _ => rfl) ?_ ?_ _ _ _ rfl rfl ?_
      · intro k env' σ' n' hk i1 i2 ⟨j1, j2, j3, j4, j5, j6, j7, j8, j9⟩
        simp only [vl_tmp] at i2
        have hcj : (lst cs)[k]? = some (lst cs)[k] := List.getElem?_eq_getElem hk
        generalize (lst cs)[k] = c at *
        by_cases h4' : k = 4
        · have hd3 : ((k : Int) == 4) = true := by rw [h4']; rfl
          simp +contextual -implicitDefEqProofs (maxSteps := 2000000) only [↓wP, wQ, wQ1, wQ2, wQ3, wR, boxE, partsOf, ↓reduceIte, n1w, n2w, n3w, n4w, n5w, n6w, reduceCtorEq, i1w, i2w, i3w, i4w, i5w, i1, i2, j1, j2, j3, j4, j5, j6, j7, j8, j9, hcj, hd3, iV]
          try exact ⟨rfl, rfl, rfl, rfl⟩
        have hd3 : ((k : Int) == 4) = false := by simp; omega
        have f27' := f27 c
        have hst : stE (lst l) c = 280 := by rw [stE_w]; rfl
        have f28' := f28 l c hfew.fit
        have hdr : drO (lst l) c = [] := by unfold drO; rw [hst]; rfl
        rw [hdr, hst] at f28'
        simp +contextual -implicitDefEqProofs (maxSteps := 2000000) only [↓wP, wQ, wQ1, wQ2, wQ3, wR, boxE, partsOf, ↓reduceIte, n1w, n2w, n3w, n4w, n5w, n6w, reduceCtorEq, i1w, i2w, i3w, i4w, i5w, h1, h2, g1, g2, g3, g4, i1, i2, j1, j2, j3, j4, j5, j6, j7, j8, j9, hcj, hd3, f27', f28', hon, List.length_nil, z8, z0, z1, z2, z3, z4, z5, z6, z7, iV]
        refine WC_for (lst ts).length 0 (fun (q : Nat) env'' σ'' n'' => env'' 0 = slV 1 fV xs ∧ env'' 1 = slV 1 uV ts ∧ env'' 2 = slV 1 iV cs ∧ env'' 27 = slV 1 fV xs ∧ env'' 28 = .int .i64 (((lst xs).length : Nat) : Int) ∧ env'' 29 = .int .i64 (j : Int) ∧ env'' 9 = slV 5 faV l ∧ env'' 11 = .bool false ∧ env'' 91 = slV 1 iV cs ∧ env'' 92 = .int .i64 (((lst cs).length : Nat) : Int) ∧ env'' 93 = .int .i64 (k : Int) ∧ env'' 15 = .int .i64 c ∧ env'' 16 = .int .i64 280 ∧ env'' 137 = slV 1 uV ts) (by omega) (by decide) (by decide) (fun _ _ => rfl) (fun _ _ _ => rfl) ?_ ?_ _ _ _ rfl rfl ?_
        · intro q env'' σ'' n'' hq u1 u2 ⟨v1, v2, v3, v4, v5, v6, v7, v8, v9, w1, w2, w3, w4, w5⟩
          simp only [vl_tmp] at u2
          have htq : (lst ts)[q]? = some (lst ts)[q] := List.getElem?_eq_getElem hq
          generalize (lst ts)[q] = t at *
          by_cases h8 : q = 8
          · have hd8 : ((q : Int) == 8) = true := by rw [h8]; rfl
            simp +contextual -implicitDefEqProofs (maxSteps := 2000000) only [↓wP, wQ, wQ1, wQ2, wQ3, wR, boxE, partsOf, ↓reduceIte, n1w, n2w, n3w, n4w, n5w, n6w, reduceCtorEq, i1w, i2w, i3w, i4w, i5w, u1, u2, v1, v2, v3, v4, v5, v6, v7, v8, v9, w1, w2, w3, w4, w5, htq, hd8, uV]
            try exact ⟨rfl, rfl, rfl, rfl, rfl, rfl, rfl, rfl, rfl⟩
          have hd8 : ((q : Int) == 8) = false := by simp; omega
          have f22' := f22 l c t hfew
          have f30' := f30 l c t hfew.fit
          have hso : stO (lst l) c t = [] := by unfold stO; rw [hst]; rfl
          have hsd : stdN (lst l) c t = 0 := by unfold stdN; rw [hst]; rfl
          rw [hso, hst] at f22'
          rw [hsd, hst] at f30'
          simp +contextual -implicitDefEqProofs (maxSteps := 2000000) only [↓wP, wQ, wQ1, wQ2, wQ3, wR, boxE, partsOf, ↓reduceIte, n1w, n2w, n3w, n4w, n5w, n6w, reduceCtorEq, i1w, i2w, i3w, i4w, i5w, u1, u2, v1, v2, v3, v4, v5, v6, v7, v8, v9, w1, w2, w3, w4, w5, htq, hd8, f22', f30', honr, List.length_nil, z8, z0, z1, z2, z3, z4, z5, z6, z7, uV]
          try exact ⟨rfl, rfl, rfl, rfl, rfl, rfl, rfl, rfl, rfl, rfl, rfl, rfl, rfl, rfl⟩
        · intro env'' σ'' n'' ⟨v1, v2, v3, v4, v5, v6, v7, v8, v9, w1, w2, w3, w4, w5⟩ u1 u2
          simp +contextual -implicitDefEqProofs (maxSteps := 2000000) only [↓wP, wQ, wQ1, wQ2, wQ3, wR, boxE, partsOf, ↓reduceIte, n1w, n2w, n3w, n4w, n5w, n6w, reduceCtorEq, i1w, i2w, i3w, i4w, i5w, v1, v2, v3, v4, v5, v6, v7, v8, v9, w1, w2, w3, w4, w5]
          try exact ⟨rfl, rfl, rfl, rfl, rfl, rfl, rfl, rfl, rfl⟩
        · exact ⟨j1, j2, j3, j4, j5, j6, j7, j8, j9, i2, i1, rfl, rfl, rfl⟩
      · intro env' σ' n' ⟨j1, j2, j3, j4, j5, j6, j7, j8, j9⟩ i1 i2
        simp +contextual -implicitDefEqProofs (maxSteps := 2000000) only [↓wP, wQ, wQ1, wQ2, wQ3, wR, boxE, partsOf, ↓reduceIte, n1w, n2w, n3w, n4w, n5w, n6w, reduceCtorEq, i1w, i2w, i3w, i4w, i5w, j1, j2, j3, j4, j5, j6, j7, j8, j9]
        try exact ⟨rfl, rfl, rfl, rfl⟩
      · exact ⟨g1, g2, g3, g4, h2, h1, rfl, rfl, rfl⟩
    · rw [hR] at f15' f24' f20' stE_w
      rw [if_pos rfl] at f24' f20'
      simp +contextual -implicitDefEqProofs (maxSteps := 2000000) only [↓wP, wQ, wQ1, wQ2, wQ3, wR, boxE, partsOf, ↓reduceIte, n1w, n2w, n3w, n4w, n5w, n6w, reduceCtorEq, i1w, i2w, i3w, i4w, i5w, h1, h2, g1, g2, g3, g4, hxj, hx0, hj0, hd, fVc, f10', f10'', f15', f24', f20', f26', f25', f18', f25'', hSS, z0, z1, z2, z3, zt]
      refine WC_for (lst cs).length 0 (fun (k : Nat) env' σ' n' => env' 0 = slV 1 fV xs ∧ env' 1 = slV 1 uV ts ∧ env' 2 = slV 1 iV cs ∧ env' 27 = slV 1 fV xs ∧ env' 28 = .int .i64 (((lst xs).length : Nat) : Int) ∧ env' 29 = .int .i64 (j : Int) ∧ env' 9 = slV 5 faV l ∧ env' 11 = .bool true ∧ env' 91 = slV 1 iV cs) (by omega) (by decide) (by decide) (fun _ _ => rfl) (fun _ _ _ => rfl) ?_ ?_ _ _ _ rfl rfl ?_
      · intro k env' σ' n' hk i1 i2 ⟨j1, j2, j3, j4, j5, j6, j7, j8, j9⟩
        simp only [vl_tmp] at i2
        have hcj : (lst cs)[k]? = some (lst cs)[k] := List.getElem?_eq_getElem hk
        generalize (lst cs)[k] = c at *
        by_cases h4' : k = 4
        · have hd3 : ((k : Int) == 4) = true := by rw [h4']; rfl
          simp +contextual -implicitDefEqProofs (maxSteps := 2000000) only [↓wP, wQ, wQ1, wQ2, wQ3, wR, boxE, partsOf, ↓reduceIte, n1w, n2w, n3w, n4w, n5w, n6w, reduceCtorEq, i1w, i2w, i3w, i4w, i5w, i1, i2, j1, j2, j3, j4, j5, j6, j7, j8, j9, hcj, hd3, iV]
          try exact ⟨rfl, rfl, rfl, rfl⟩
        have hd3 : ((k : Int) == 4) = false := by simp; omega
        have f27' := f27 c
        cases hC : collB c
        · rw [hC] at f27'
          have hst : stE (lst l) c = 2 := by rw [stE_w, hC]; rfl
          have f28' := f28 l c hfew.fit
          have hdr : drO (lst l) c = [] := by unfold drO; rw [hst]; rfl
          rw [hdr, hst] at f28'
          simp +contextual -implicitDefEqProofs (maxSteps := 2000000) only [↓wP, wQ, wQ1, wQ2, wQ3, wR, boxE, partsOf, ↓reduceIte, n1w, n2w, n3w, n4w, n5w, n6w, reduceCtorEq, i1w, i2w, i3w, i4w, i5w, h1, h2, g1, g2, g3, g4, i1, i2, j1, j2, j3, j4, j5, j6, j7, j8, j9, hcj, hd3, f27', f28', hon, List.length_nil, z8, z0, z1, z2, z3, z4, z5, z6, z7, iV]
          refine WC_for (lst ts).length 0 (fun (q : Nat) env'' σ'' n'' => env'' 0 = slV 1 fV xs ∧ env'' 1 = slV 1 uV ts ∧ env'' 2 = slV 1 iV cs ∧ env'' 27 = slV 1 fV xs ∧ env'' 28 = .int .i64 (((lst xs).length : Nat) : Int) ∧ env'' 29 = .int .i64 (j : Int) ∧ env'' 9 = slV 5 faV l ∧ env'' 11 = .bool true ∧ env'' 91 = slV 1 iV cs ∧ env'' 92 = .int .i64 (((lst cs).length : Nat) : Int) ∧ env'' 93 = .int .i64 (k : Int) ∧ env'' 15 = .int .i64 c ∧ env'' 16 = .int .i64 2 ∧ env'' 137 = slV 1 uV ts) (by omega) (by decide) (by decide) (fun _ _ => rfl) (fun _ _ _ => rfl) ?_ ?_ _ _ _ rfl rfl ?_
          · intro q env'' σ'' n'' hq u1 u2 ⟨v1, v2, v3, v4, v5, v6, v7, v8, v9, w1, w2, w3, w4, w5⟩
            simp only [vl_tmp] at u2
            have htq : (lst ts)[q]? = some (lst ts)[q] := List.getElem?_eq_getElem hq
            generalize (lst ts)[q] = t at *
            by_cases h8 : q = 8
            · have hd8 : ((q : Int) == 8) = true := by rw [h8]; rfl
              simp +contextual -implicitDefEqProofs (maxSteps := 2000000) only [↓wP, wQ, wQ1, wQ2, wQ3, wR, boxE, partsOf, ↓reduceIte, n1w, n2w, n3w, n4w, n5w, n6w, reduceCtorEq, i1w, i2w, i3w, i4w, i5w, u1, u2, v1, v2, v3, v4, v5, v6, v7, v8, v9, w1, w2, w3, w4, w5, htq, hd8, uV]
              try exact ⟨rfl, rfl, rfl, rfl, rfl, rfl, rfl, rfl, rfl⟩
            have hd8 : ((q : Int) == 8) = false := by simp; omega
            have f22' := f22 l c t hfew
            have f30' := f30 l c t hfew.fit
            have hso : stO (lst l) c t = [] := by unfold stO; rw [hst]; rfl
            have hsd : stdN (lst l) c t = 0 := by unfold stdN; rw [hst]; rfl
            rw [hso, hst] at f22'
            rw [hsd, hst] at f30'
            simp +contextual -implicitDefEqProofs (maxSteps := 2000000) only [↓wP, wQ, wQ1, wQ2, wQ3, wR, boxE, partsOf, ↓reduceIte, n1w, n2w, n3w, n4w, n5w, n6w, reduceCtorEq, i1w, i2w, i3w, i4w, i5w, u1, u2, v1, v2, v3, v4, v5, v6, v7, v8, v9, w1, w2, w3, w4, w5, htq, hd8, f22', f30', honr, List.length_nil, z8, z0, z1, z2, z3, z4, z5, z6, z7, uV]
            try exact ⟨rfl, rfl, rfl, rfl, rfl, rfl, rfl, rfl, rfl, rfl, rfl, rfl, rfl, rfl⟩
          · intro env'' σ'' n'' ⟨v1, v2, v3, v4, v5, v6, v7, v8, v9, w1, w2, w3, w4, w5⟩ u1 u2
            simp +contextual -implicitDefEqProofs (maxSteps := 2000000) only [↓wP, wQ, wQ1, wQ2, wQ3, wR, boxE, partsOf, ↓reduceIte, n1w, n2w, n3w, n4w, n5w, n6w, reduceCtorEq, i1w, i2w, i3w, i4w, i5w, v1, v2, v3, v4, v5, v6, v7, v8, v9, w1, w2, w3, w4, w5]
            try exact ⟨rfl, rfl, rfl, rfl, rfl, rfl, rfl, rfl, rfl⟩
          · exact ⟨j1, j2, j3, j4, j5, j6, j7, j8, j9, i2, i1, rfl, rfl, rfl⟩
        · rw [hC] at f27'
          have hst : stE (lst l) c = 0 := by rw [stE_w, hC]; rfl
          have f28' := f28 l c hfew.fit
          have hdr : drO (lst l) c = dropF c (lst l) := by unfold drO; rw [hst]; rfl
          rw [hdr, hst] at f28'
          have f29' := f29 l c hfew.fit
          have f18b := f18 (oL (dropF c (lst l))) (oL (dropF c ((lst l).map cpF))) (fit_drop c hfew.fit) (fit_dropC c hfew.fit)
          rw [lst_oL, lst_oL, dropF_cp] at f18b
          simp +contextual -implicitDefEqProofs (maxSteps := 2000000) only [↓wP, wQ, wQ1, wQ2, wQ3, wR, boxE, partsOf, ↓reduceIte, n1w, n2w, n3w, n4w, n5w, n6w, reduceCtorEq, i1w, i2w, i3w, i4w, i5w, h1, h2, g1, g2, g3, g4, i1, i2, j1, j2, j3, j4, j5, j6, j7, j8, j9, hcj, hd3, f27', f28', f29', f18b, z0, z1, z2, z3, z4, z5, z6, z7, iV]
          refine WC_for (lst ts).length 0 (fun (q : Nat) env'' σ'' n'' => env'' 0 = slV 1 fV xs ∧ env'' 1 = slV 1 uV ts ∧ env'' 2 = slV 1 iV cs ∧ env'' 27 = slV 1 fV xs ∧ env'' 28 = .int .i64 (((lst xs).length : Nat) : Int) ∧ env'' 29 = .int .i64 (j : Int) ∧ env'' 9 = slV 5 faV l ∧ env'' 11 = .bool true ∧ env'' 91 = slV 1 iV cs ∧ env'' 92 = .int .i64 (((lst cs).length : Nat) : Int) ∧ env'' 93 = .int .i64 (k : Int) ∧ env'' 15 = .int .i64 c ∧ env'' 16 = .int .i64 0 ∧ env'' 137 = slV 1 uV ts) (by omega) (by decide) (by decide) (fun _ _ => rfl) (fun _ _ _ => rfl) ?_ ?_ _ _ _ rfl rfl ?_
          · intro q env'' σ'' n'' hq u1 u2 ⟨v1, v2, v3, v4, v5, v6, v7, v8, v9, w1, w2, w3, w4, w5⟩
            simp only [vl_tmp] at u2
            have htq : (lst ts)[q]? = some (lst ts)[q] := List.getElem?_eq_getElem hq
            generalize (lst ts)[q] = t at *
            by_cases h8 : q = 8
            · have hd8 : ((q : Int) == 8) = true := by rw [h8]; rfl
              simp +contextual -implicitDefEqProofs (maxSteps := 2000000) only [↓wP, wQ, wQ1, wQ2, wQ3, wR, boxE, partsOf, ↓reduceIte, n1w, n2w, n3w, n4w, n5w, n6w, reduceCtorEq, i1w, i2w, i3w, i4w, i5w, u1, u2, v1, v2, v3, v4, v5, v6, v7, v8, v9, w1, w2, w3, w4, w5, htq, hd8, uV]
              try exact ⟨rfl, rfl, rfl, rfl, rfl, rfl, rfl, rfl, rfl⟩
            have hd8 : ((q : Int) == 8) = false := by simp; omega
            have f22' := f22 l c t hfew
            have f30' := f30 l c t hfew.fit
            have hso : stO (lst l) c t = nowR (lst l) c t := by unfold stO; rw [hst]; rfl
            have hsd : stdN (lst l) c t = (stN c t (lst l) : Int) := by unfold stdN; rw [hst]; rfl
            rw [hso, hst] at f22'
            rw [hsd, hst] at f30'
            have f32' := f32 l c t hfew.fit
            have f33' := f33 l c t (by omega) (hts hR)
            have hnl := nowR_len (lst l) c t
            have hnv : ∀ r ∈ nowR (lst l) c t, (lst r.v).length ≤ 5 := nowR_all (P := fun v => (lst v).length ≤ 5) hlv c t
            have f31' := f31 (oL (nowR (lst l) c t)) (oL (stR (lst l) c t)) ⟨by rw [lst_oL]; omega, fun r hr => by rw [lst_oL] at hr; have := hnv r hr; unfold Sm; omega⟩
              ⟨by rw [lst_oL, stR_now, List.length_map]; omega, fun r hr => by rw [lst_oL, stR_now] at hr; obtain ⟨r', hr', rfl⟩ := List.mem_map.1 hr; have := hnv r' hr'; unfold Sm; simp only [cpR, lst_cp]; omega⟩
            rw [lst_oL, lst_oL, same_now] at f31'
            have hnn : ((stN c t (lst l) : Int) != (stN c t (lst l) : Int)) = false := by simp
            simp +contextual -implicitDefEqProofs (maxSteps := 2000000) only [↓wP, wQ, wQ1, wQ2, wQ3, wR, boxE, partsOf, ↓reduceIte, n1w, n2w, n3w, n4w, n5w, n6w, reduceCtorEq, i1w, i2w, i3w, i4w, i5w, u1, u2, v1, v2, v3, v4, v5, v6, v7, v8, v9, w1, w2, w3, w4, w5, htq, hd8, f22', f30', f32', f33', f31', hnn, z0, z1, z2, z3, z4, z5, z6, z7, uV]
            try exact ⟨rfl, rfl, rfl, rfl, rfl, rfl, rfl, rfl, rfl, rfl, rfl, rfl, rfl, rfl⟩
          · intro env'' σ'' n'' ⟨v1, v2, v3, v4, v5, v6, v7, v8, v9, w1, w2, w3, w4, w5⟩ u1 u2
            simp +contextual -implicitDefEqProofs (maxSteps := 2000000) only [↓wP, wQ, wQ1, wQ2, wQ3, wR, boxE, partsOf, ↓reduceIte, n1w, n2w, n3w, n4w, n5w, n6w, reduceCtorEq, i1w, i2w, i3w, i4w, i5w, v1, v2, v3, v4, v5, v6, v7, v8, v9, w1, w2, w3, w4, w5]
            try exact ⟨rfl, rfl, rfl, rfl, rfl, rfl, rfl, rfl, rfl⟩
          · exact ⟨j1, j2, j3, j4, j5, j6, j7, j8, j9, i2, i1, rfl, rfl, rfl⟩
      · intro env' σ' n' ⟨j1, j2, j3, j4, j5, j6, j7, j8, j9⟩ i1 i2
        simp +contextual -implicitDefEqProofs (maxSteps := 2000000) only [↓wP, wQ, wQ1, wQ2, wQ3, wR, boxE, partsOf, ↓reduceIte, n1w, n2w, n3w, n4w, n5w, n6w, reduceCtorEq, i1w, i2w, i3w, i4w, i5w, j1, j2, j3, j4, j5, j6, j7, j8, j9]
        try exact ⟨rfl, rfl, rfl, rfl⟩
      · exact ⟨g1, g2, g3, g4, h2, h1, rfl, rfl, rfl⟩
  · intro env σ n ⟨g1, _⟩ h1 h2
    simp +contextual -implicitDefEqProofs (maxSteps := 2000000) only [↓wP, wQ, wQ1, wQ2, wQ3, wR, boxE, partsOf, ↓reduceIte, n1w, n2w, n3w, n4w, n5w, n6w, reduceCtorEq, i1w, i2w, i3w, i4w, i5w]
  · exact ⟨rfl, rfl, rfl, rfl⟩
end Go.Q.SB
end

section
/- Rows of row of facts, of times and of numbers, as trees. -/
set_option linter.unusedSimpArgs false
set_option linter.unusedVariables false
set_option maxRecDepth 20000
namespace Go.Q.SB
open Go.Q Go.Proofs
def eFss : Enc Try.prog 52 (Option (List (Option (List Fa)))) := Enc.slice eFas Try.underlying52 1 (by kernel_rfl) (by decide) 24 (by kernel_rfl)
theorem okFss {o : Option (List (Option (List Fa)))} (h : eFss.ok o) : (lst o).length < 4611686018427387904 ∧ ∀ x ∈ lst o, SmF x := by
  cases o with
  | none => exact ⟨by simp [lst], by simp [lst]⟩
  | some l =>
    obtain ⟨h1, h2, h3⟩ := h l rfl
    rw [reach_eq] at h2
    exact ⟨by rw [lst_some]; omega, fun r hr => okFas (h3 r hr)⟩
def eTss : Enc Try.prog 53 (Option (List Int)) := Enc.slice eU64 Try.underlying53 1 (by kernel_rfl) (by decide) 8 (by kernel_rfl)
def eNss : Enc Try.prog 54 (Option (List Int)) := Enc.slice eInt Try.underlying54 1 (by kernel_rfl) (by decide) 8 (by kernel_rfl)
theorem okTss {o : Option (List Int)} (h : eTss.ok o) : (lst o).length < 4611686018427387904 := by
  cases o with
  | none => simp [lst]
  | some l =>
    obtain ⟨h1, h2, h3⟩ := h l rfl
    rw [reach_eq] at h2
    rw [lst_some]
    omega
theorem okNss {o : Option (List Int)} (h : eNss.ok o) : (lst o).length < 4611686018427387904 := by
  cases o with
  | none => simp [lst]
  | some l =>
    obtain ⟨h1, h2, h3⟩ := h l rfl
    rw [reach_eq] at h2
    rw [lst_some]
    omega
end Go.Q.SB
end

section
/- The table is the program's. -/
namespace Go.Q.SB
open Go.Proofs
def Has (f : Nat) (fn : Fn) : Prop := ∃ F, Try.prog.funcs[f]? = some F ∧ cFunc Try.prog (ownB T) F = some fn ∧ (F.name == "runtime.NumGoroutine") = false
theorem h5 : Has 5 g5 := ⟨Try.f5, Try.func5, by kernel_rfl, by kernel_rfl⟩
theorem h9 : Has 9 g9 := ⟨Try.f9, Try.func9, by kernel_rfl, by kernel_rfl⟩
theorem h10 : Has 10 g10 := ⟨Try.f10, Try.func10, by kernel_rfl, by kernel_rfl⟩
theorem h11 : Has 11 g11 := ⟨Try.f11, Try.func11, by kernel_rfl, by kernel_rfl⟩
theorem h13 : Has 13 g13 := ⟨Try.f13, Try.func13, by kernel_rfl, by kernel_rfl⟩
theorem h15 : Has 15 g15 := ⟨Try.f15, Try.func15, by kernel_rfl, by kernel_rfl⟩
theorem h16 : Has 16 g16 := ⟨Try.f16, Try.func16, by kernel_rfl, by kernel_rfl⟩
theorem h18 : Has 18 g18 := ⟨Try.f18, Try.func18, by kernel_rfl, by kernel_rfl⟩
theorem h20 : Has 20 g20 := ⟨Try.f20, Try.func20, by kernel_rfl, by kernel_rfl⟩
theorem h21 : Has 21 g21 := ⟨Try.f21, Try.func21, by kernel_rfl, by kernel_rfl⟩
theorem h22 : Has 22 g22 := ⟨Try.f22, Try.func22, by kernel_rfl, by kernel_rfl⟩
theorem h24 : Has 24 g24 := ⟨Try.f24, Try.func24, by kernel_rfl, by kernel_rfl⟩
theorem h25 : Has 25 g25 := ⟨Try.f25, Try.func25, by kernel_rfl, by kernel_rfl⟩
theorem h26 : Has 26 g26 := ⟨Try.f26, Try.func26, by kernel_rfl, by kernel_rfl⟩
theorem h27 : Has 27 g27 := ⟨Try.f27, Try.func27, by kernel_rfl, by kernel_rfl⟩
theorem h28 : Has 28 g28 := ⟨Try.f28, Try.func28, by kernel_rfl, by kernel_rfl⟩
theorem h29 : Has 29 g29 := ⟨Try.f29, Try.func29, by kernel_rfl, by kernel_rfl⟩
theorem h30 : Has 30 g30 := ⟨Try.f30, Try.func30, by kernel_rfl, by kernel_rfl⟩
theorem h31 : Has 31 g31 := ⟨Try.f31, Try.func31, by kernel_rfl, by kernel_rfl⟩
theorem h32 : Has 32 g32 := ⟨Try.f32, Try.func32, by kernel_rfl, by kernel_rfl⟩
theorem h33 : Has 33 g33 := ⟨Try.f33, Try.func33, by kernel_rfl, by kernel_rfl⟩
theorem h42 : Has 42 g42 := ⟨Try.f42, Try.func42, by kernel_rfl, by kernel_rfl⟩
theorem h43 : Has 43 g43 := ⟨Try.f43, Try.func43, by kernel_rfl, by kernel_rfl⟩
theorem h44 : Has 44 g44 := ⟨Try.f44, Try.func44, by kernel_rfl, by kernel_rfl⟩
theorem h45 : Has 45 g45 := ⟨Try.f45, Try.func45, by kernel_rfl, by kernel_rfl⟩
theorem h46 : Has 46 g46 := ⟨Try.f46, Try.func46, by kernel_rfl, by kernel_rfl⟩
theorem h47 : Has 47 g47 := ⟨Try.f47, Try.func47, by kernel_rfl, by kernel_rfl⟩
theorem h48 : Has 48 g48 := ⟨Try.f48, Try.func48, by kernel_rfl, by kernel_rfl⟩
theorem h49 : Has 49 g49 := ⟨Try.f49, Try.func49, by kernel_rfl, by kernel_rfl⟩
theorem h50 : Has 50 g50 := ⟨Try.f50, Try.func50, by kernel_rfl, by kernel_rfl⟩
theorem h51 : Has 51 g51 := ⟨Try.f51, Try.func51, by kernel_rfl, by kernel_rfl⟩
theorem h52 : Has 52 g52 := ⟨Try.f52, Try.func52, by kernel_rfl, by kernel_rfl⟩
theorem h53 : Has 53 g53 := ⟨Try.f53, Try.func53, by kernel_rfl, by kernel_rfl⟩
theorem h54 : Has 54 g54 := ⟨Try.f54, Try.func54, by kernel_rfl, by kernel_rfl⟩
theorem h56 : Has 56 g56 := ⟨Try.f56, Try.func56, by kernel_rfl, by kernel_rfl⟩
theorem h57 : Has 57 g57 := ⟨Try.f57, Try.func57, by kernel_rfl, by kernel_rfl⟩
theorem h58 : Has 58 g58 := ⟨Try.f58, Try.func58, by kernel_rfl, by kernel_rfl⟩
theorem h59 : Has 59 g59 := ⟨Try.f59, Try.func59, by kernel_rfl, by kernel_rfl⟩
theorem h60 : Has 60 g60 := ⟨Try.f60, Try.func60, by kernel_rfl, by kernel_rfl⟩
theorem h62 : Has 62 g62 := ⟨Try.f62, Try.func62, by kernel_rfl, by kernel_rfl⟩
theorem h63 : Has 63 g63 := ⟨Try.f63, Try.func63, by kernel_rfl, by kernel_rfl⟩
theorem h64 : Has 64 g64 := ⟨Try.f64, Try.func64, by kernel_rfl, by kernel_rfl⟩
theorem h65 : Has 65 g65 := ⟨Try.f65, Try.func65, by kernel_rfl, by kernel_rfl⟩
theorem h66 : Has 66 g66 := ⟨Try.f66, Try.func66, by kernel_rfl, by kernel_rfl⟩
theorem h67 : Has 67 g67 := ⟨Try.f67, Try.func67, by kernel_rfl, by kernel_rfl⟩
theorem h68 : Has 68 g68 := ⟨Try.f68, Try.func68, by kernel_rfl, by kernel_rfl⟩
theorem h70 : Has 70 g70 := ⟨Try.f70, Try.func70, by kernel_rfl, by kernel_rfl⟩
theorem h71 : Has 71 g71 := ⟨Try.f71, Try.func71, by kernel_rfl, by kernel_rfl⟩
theorem h74 : Has 74 g74 := ⟨Try.f74, Try.func74, by kernel_rfl, by kernel_rfl⟩
theorem h75 : Has 75 g75 := ⟨Try.f75, Try.func75, by kernel_rfl, by kernel_rfl⟩
theorem h77 : Has 77 g77 := ⟨Try.f77, Try.func77, by kernel_rfl, by kernel_rfl⟩
theorem h91 : Has 91 g91 := ⟨Try.f91, Try.func91, by kernel_rfl, by kernel_rfl⟩
theorem h92 : Has 92 g92 := ⟨Try.f92, Try.func92, by kernel_rfl, by kernel_rfl⟩
theorem h93 : Has 93 g93 := ⟨Try.f93, Try.func93, by kernel_rfl, by kernel_rfl⟩
theorem h94 : Has 94 g94 := ⟨Try.f94, Try.func94, by kernel_rfl, by kernel_rfl⟩
theorem h95 : Has 95 g95 := ⟨Try.f95, Try.func95, by kernel_rfl, by kernel_rfl⟩
theorem h96 : Has 96 g96 := ⟨Try.f96, Try.func96, by kernel_rfl, by kernel_rfl⟩
theorem h97 : Has 97 g97 := ⟨Try.f97, Try.func97, by kernel_rfl, by kernel_rfl⟩
theorem h98 : Has 98 g98 := ⟨Try.f98, Try.func98, by kernel_rfl, by kernel_rfl⟩
theorem h99 : Has 99 g99 := ⟨Try.f99, Try.func99, by kernel_rfl, by kernel_rfl⟩
theorem h100 : Has 100 g100 := ⟨Try.f100, Try.func100, by kernel_rfl, by kernel_rfl⟩
theorem h101 : Has 101 g101 := ⟨Try.f101, Try.func101, by kernel_rfl, by kernel_rfl⟩
theorem h103 : Has 103 g103 := ⟨Try.f103, Try.func103, by kernel_rfl, by kernel_rfl⟩
theorem h104 : Has 104 g104 := ⟨Try.f104, Try.func104, by kernel_rfl, by kernel_rfl⟩
theorem h105 : Has 105 g105 := ⟨Try.f105, Try.func105, by kernel_rfl, by kernel_rfl⟩
theorem h109 : Has 109 g109 := ⟨Try.f109, Try.func109, by kernel_rfl, by kernel_rfl⟩
theorem h110 : Has 110 g110 := ⟨Try.f110, Try.func110, by kernel_rfl, by kernel_rfl⟩
theorem h111 : Has 111 g111 := ⟨Try.f111, Try.func111, by kernel_rfl, by kernel_rfl⟩
theorem h112 : Has 112 g112 := ⟨Try.f112, Try.func112, by kernel_rfl, by kernel_rfl⟩
theorem h113 : Has 113 g113 := ⟨Try.f113, Try.func113, by kernel_rfl, by kernel_rfl⟩
theorem h114 : Has 114 g114 := ⟨Try.f114, Try.func114, by kernel_rfl, by kernel_rfl⟩
theorem h115 : Has 115 g115 := ⟨Try.f115, Try.func115, by kernel_rfl, by kernel_rfl⟩
theorem h116 : Has 116 g116 := ⟨Try.f116, Try.func116, by kernel_rfl, by kernel_rfl⟩
theorem h117 : Has 117 g117 := ⟨Try.f117, Try.func117, by kernel_rfl, by kernel_rfl⟩
theorem h118 : Has 118 g118 := ⟨Try.f118, Try.func118, by kernel_rfl, by kernel_rfl⟩
theorem h119 : Has 119 g119 := ⟨Try.f119, Try.func119, by kernel_rfl, by kernel_rfl⟩
theorem h120 : Has 120 g120 := ⟨Try.f120, Try.func120, by kernel_rfl, by kernel_rfl⟩
theorem h121 : Has 121 g121 := ⟨Try.f121, Try.func121, by kernel_rfl, by kernel_rfl⟩
theorem h122 : Has 122 g122 := ⟨Try.f122, Try.func122, by kernel_rfl, by kernel_rfl⟩
theorem h123 : Has 123 g123 := ⟨Try.f123, Try.func123, by kernel_rfl, by kernel_rfl⟩
theorem h124 : Has 124 g124 := ⟨Try.f124, Try.func124, by kernel_rfl, by kernel_rfl⟩
theorem h125 : Has 125 g125 := ⟨Try.f125, Try.func125, by kernel_rfl, by kernel_rfl⟩
theorem h126 : Has 126 g126 := ⟨Try.f126, Try.func126, by kernel_rfl, by kernel_rfl⟩
theorem h127 : Has 127 g127 := ⟨Try.f127, Try.func127, by kernel_rfl, by kernel_rfl⟩
theorem h128 : Has 128 g128 := ⟨Try.f128, Try.func128, by kernel_rfl, by kernel_rfl⟩
theorem tabOf : TabOf Try.prog T := by
  intro f fn h
  simp only [T] at h
  unfold fnOf at h
  split at h
  all_goals first | (cases h; done) | skip
  all_goals (simp only [Option.some.injEq] at h; subst h)
  · exact h5
  · exact h9
  · exact h10
  · exact h11
  · exact h13
  · exact h15
  · exact h16
  · exact h18
  · exact h20
  · exact h21
  · exact h22
  · exact h24
  · exact h25
  · exact h26
  · exact h27
  · exact h28
  · exact h29
  · exact h30
  · exact h31
  · exact h32
  · exact h33
  · exact h42
  · exact h43
  · exact h44
  · exact h45
  · exact h46
  · exact h47
  · exact h48
  · exact h49
  · exact h50
  · exact h51
  · exact h52
  · exact h53
  · exact h54
  · exact h56
  · exact h57
  · exact h58
  · exact h59
  · exact h60
  · exact h62
  · exact h63
  · exact h64
  · exact h65
  · exact h66
  · exact h67
  · exact h68
  · exact h70
  · exact h71
  · exact h74
  · exact h75
  · exact h77
  · exact h91
  · exact h92
  · exact h93
  · exact h94
  · exact h95
  · exact h96
  · exact h97
  · exact h98
  · exact h99
  · exact h100
  · exact h101
  · exact h103
  · exact h104
  · exact h105
  · exact h109
  · exact h110
  · exact h111
  · exact h112
  · exact h113
  · exact h114
  · exact h115
  · exact h116
  · exact h117
  · exact h118
  · exact h119
  · exact h120
  · exact h121
  · exact h122
  · exact h123
  · exact h124
  · exact h125
  · exact h126
  · exact h127
  · exact h128
theorem mixed : Try.prog.follows .mixedOrders = true := by kernel_rfl
end Go.Q.SB
end
