/- The nearest centroids: what the program says. -/
import Derived.Test.YthlgaehihnoohaaSB
import Derived.Test.YthlgaehihnoohaaProg
import Derived.KernelRfl
section
set_option linter.unusedSimpArgs false
set_option linter.unusedVariables false
namespace Go.Q.S14
open Go.Q Go.Sort
theorem yieldW_gs {T : Tab} {l : Nat} {args : List V} {σ : Sto} {n lk : Nat} {Q : V → Sto → Nat → Prop} {env : Nat → V} {ps : List Nat} {assign body : AC} {pend : Option Ex}
    (hl : σ l = some (.loop env ps assign body .ready pend)) (ha : args.length = ps.length) (hlk : lk ≤ l)
    (h : WC T assign (bindPs env ps args) σ n lk fun ex s => ex = .normal ∧ s.σ l = some (.loop env ps assign body .ready pend) ∧ s.lk = lk ∧
      WC T body s.env (upd s.σ l (some (.loop env ps assign body .busy pend))) s.n lk fun ex s' => s'.σ l = some (.loop env ps assign body .busy pend) ∧
        ((ex = .normal ∧ Q (.bool true) (upd s'.σ l (some (.loop env ps assign body .ready none))) s'.n) ∨ (ex = .ret ∧ Q (.bool false) (upd s'.σ l (some (.loop env ps assign body .done (some .ret)))) s'.n))) (hd : assign.det = true ∧ body.det = true := by exact ⟨rfl, rfl⟩) : yieldW (run T) l args σ n lk Q := by
  unfold yieldW
  simp only [hl]
  refine ⟨ha, hlk, run_step hd ?_⟩
  simp only [jobW]
  refine wpC_mono (fun _ _ x => x) run_mono _ _ _ _ (fun e s ⟨h1, h2, h3, h4⟩ => ?_) (WC_ok _ _ _ _ _ _ h)
  obtain ⟨env1, σ1, n1, lk1⟩ := s
  simp only at h2 h3 h4
  subst h3
  refine ⟨h1, env, ps, assign, body, pend, h2, wpC_mono (fun _ _ x => x) run_mono _ _ _ _ (fun e2 s2 ⟨k2, k3⟩ => ?_) (WC_ok _ _ _ _ _ _ h4)⟩
  refine ⟨⟨env, ps, assign, body, pend, k2⟩, env, ps, assign, body, pend, k2, ?_⟩
  rcases k3 with ⟨rfl, k3⟩ | ⟨rfl, k3⟩
  · simpa using k3
  · simpa using k3
def iV (i : Int) : V := .int .i64 i
theorem iV_eq (i : Int) : iV i = .int .i64 i := rfl
def ownI (l : List Int) : V := if l = [] then .nilS else .own 1 (l.map iV)
def iVal (n : Nat) (l : List Int) : V := if l = [] then .nilS else .ref n 0 l.length 1
def iSto (σ : Sto) (n : Nat) (l : List Int) : Sto := if l = [] then σ else upd σ n (some (.row 1 (l.map iV)))
def iN (n : Nat) (l : List Int) : Nat := if l = [] then n else n + 1
theorem iter48 (q : Vc) (k ts m : Int) (c : Option (List Vc)) (Hs : List Hit) (l : Nat) (J : Nat → Sto → Nat → Prop) (σ : Sto) (n : Nat) (hln : l < n) (hH : Hs.length < 1000000) (hid : ∀ h ∈ Hs, 0 ≤ h.id ∧ h.id < 1000000) (hm : 0 ≤ m)
    (hfr : ∀ j σ n σ' n', J j σ n → n ≤ n' → (∀ i, i < n → σ' i = σ i) → J j σ' n')
    (hy : ∀ j (hj : j < Hs.length) σ n, (j : Int) < m → J j σ n → l < n → yieldW (run T) l [.int .i64 Hs[j].id] σ n 0 (fun y σ' n' => n ≤ n' ∧ y = .bool true ∧ J (j + 1) σ' n'))
    (h0 : J 0 σ n) : run T (.raw 48 (.yld l :: [.box [.sl 2 (hs Hs)], .box (srcV q k ts m c)]) σ n 0) (memQ fun _ σ' n' => J (min m.toNat Hs.length) σ' n') := by
  refine run_rawE (fn := g48) rfl rfl ?_
  simp only [g48, b48, oO, oN, mV, lD, gO, pP, qQ, cI, aR, srcV]
  obtain ⟨MP, hMP⟩ : ∃ MP : Sto → Nat → Prop, MP = fun σ' n' => J (min m.toNat Hs.length) σ' n' := ⟨_, rfl⟩
  simp only [← congrFun (congrFun hMP _) _]
  have hle : lenE (.sl 2 (hs Hs)) = some (.int .i64 (Hs.length : Int)) := by simp [lenE, lenOf, hs_len]
  simp +contextual -implicitDefEqProofs (maxSteps := 2000000) only [↓wP, wQ, wQ1, wQ2, wQ3, wR, boxE, partsOf, ↓reduceIte, Nat.reduceEqDiff, Nat.reduceAdd, Nat.reduceSub, Nat.reduceLeDiff, Nat.reduceLT, Nat.reduceMul, reduceCtorEq, Int.reduceBNe, Int.reduceBEq, Int.reduceLT, Int.reduceLE, Int.reduceGT, hle]
  refine WC_for Hs.length 0 (fun (j : Nat) env σ n => env 0 = .yld l ∧ env 2 = .box [slV 1 i32V q, .int .i64 k, .int .u64 ts, .int .i64 m, slV 1 vecV c] ∧ env 6 = .sl 2 (hs Hs) ∧ l < n ∧ (j : Int) ≤ m ∧ J j σ n) (by omega) (by decide) (by decide) (fun _ _ => rfl) (fun _ _ _ => rfl) ?_ ?_ _ _ _ rfl rfl ?_
  · intro j env σ n hj h1 h2 ⟨h3, h4, h5, h6, h7, h8⟩
    simp only [vl_tmp] at h2
    have hm' := List.getElem_mem hj
    obtain ⟨i1, i2⟩ := hid _ hm'
    have hx : (hs Hs)[j]? = some (.agg [.int .u64 Hs[j].id, .int .u64 Hs[j].d]) := by
      simp [hs, hitV, hj]
    have hJ1 := hfr _ _ _ (upd (upd σ n (some (.row 2 [.agg [.int .u64 0, .int .u64 0]]))) n (some (.row 2 [.agg [.int .u64 Hs[j].id, .int .u64 Hs[j].d]]))) (n + 1) h8 (by omega) (fun i hi => by
      have : i ≠ n := by omega
      simp [upd, this])
    have hY := hy j hj
    have wi : IntKind.i64.wrap Hs[j].id = Hs[j].id := by rw [wrap_i64] <;> omega
    generalize Hs[j] = x at *
    by_cases hjm : (j : Int) = m
    · have mp : MP (upd (upd σ n (some (.row 2 [.agg [.int .u64 0, .int .u64 0]]))) n (some (.row 2 [.agg [.int .u64 x.id, .int .u64 x.d]]))) (n + 1) := by
        rw [hMP]; dsimp only; rw [show min m.toNat Hs.length = j by omega]; exact hJ1
      have hjm' : ((j : Int) == m) = true := by simpa using hjm
      simp +contextual -implicitDefEqProofs (maxSteps := 2000000) only [↓wP, wQ, wQ1, wQ2, wQ3, wR, boxE, partsOf, ↓reduceIte, Nat.reduceEqDiff, Nat.reduceAdd, Nat.reduceSub, Nat.reduceLeDiff, Nat.reduceLT, Nat.reduceMul, reduceCtorEq, Int.reduceBNe, Int.reduceBEq, Int.reduceLT, Int.reduceLE, Int.reduceGT, h1, h2, h3, h4, h5, hx, hjm']
      exact mp
    · have hjm' : ((j : Int) == m) = false := by simpa using hjm
      simp +contextual -implicitDefEqProofs (maxSteps := 2000000) only [↓wP, wQ, wQ1, wQ2, wQ3, wR, boxE, partsOf, ↓reduceIte, Nat.reduceEqDiff, Nat.reduceAdd, Nat.reduceSub, Nat.reduceLeDiff, Nat.reduceLT, Nat.reduceMul, reduceCtorEq, Int.reduceBNe, Int.reduceBEq, Int.reduceLT, Int.reduceLE, Int.reduceGT, h1, h2, h3, h4, h5, hx, hjm', wi]
      refine stepW_yld (yieldW_mono (fun _ _ x => x) run_mono (fun y σ' n' ⟨a1, a2, a3⟩ => ?_) (hY _ _ (by omega) hJ1 (by omega)))
      subst a2
      simp +contextual -implicitDefEqProofs (maxSteps := 2000000) only [↓wP, wQ, wQ1, wQ2, wQ3, wR, boxE, partsOf, ↓reduceIte, Nat.reduceEqDiff, Nat.reduceAdd, Nat.reduceSub, Nat.reduceLeDiff, Nat.reduceLT, Nat.reduceMul, reduceCtorEq, Int.reduceBNe, Int.reduceBEq, Int.reduceLT, Int.reduceLE, Int.reduceGT, h1, h2, h3, h4, h5]
      exact ⟨by omega, by omega, a3⟩
  · intro env σ n ⟨h3, h4, h5, h6, h7, h8⟩ h1 h2
    have mp : MP σ n := by rw [hMP]; dsimp only; rw [show min m.toNat Hs.length = Hs.length by omega]; exact h8
    simp +contextual -implicitDefEqProofs (maxSteps := 2000000) only [↓wP, wQ, wQ1, wQ2, wQ3, wR, boxE, partsOf, ↓reduceIte, Nat.reduceEqDiff, Nat.reduceAdd, Nat.reduceSub, Nat.reduceLeDiff, Nat.reduceLT, Nat.reduceMul, reduceCtorEq, Int.reduceBNe, Int.reduceBEq, Int.reduceLT, Int.reduceLE, Int.reduceGT]
    exact mp
  · simp +contextual -implicitDefEqProofs (maxSteps := 2000000) only [↓wP, wQ, wQ1, wQ2, wQ3, wR, boxE, partsOf, ↓reduceIte, Nat.reduceEqDiff, Nat.reduceAdd, Nat.reduceSub, Nat.reduceLeDiff, Nat.reduceLT, Nat.reduceMul, reduceCtorEq, Int.reduceBNe, Int.reduceBEq, Int.reduceLT, Int.reduceLE, Int.reduceGT]
    exact ⟨hln, hm, h0⟩
theorem thaw_ownI (σ : Sto) (n : Nat) (l : List Int) : thaw σ n (ownI l) = (iVal n l, iSto σ n l, iN n l) := by
  cases l with
  | nil => rfl
  | cons x l =>
    unfold iVal iSto iN ownI
    rw [if_neg (by simp), if_neg (by simp), if_neg (by simp), if_neg (by simp), thaw_own, thawL_nw 12 (by
      intro y hy
      obtain ⟨z, -, rfl⟩ := List.mem_map.1 hy
      rfl), List.length_map]
theorem flat_iV (l : List Int) : flatL (l.map iV) = true := by
  induction l with
  | nil => rfl
  | cons x l ih => simp only [List.map_cons, flatL, iV, flat, Bool.true_and]; exact ih
theorem flat_ownI (l : List Int) : flat (ownI l) = true := by
  unfold ownI
  split
  · rfl
  · exact flat_iV l
theorem giv_none (σ : Sto) {e : Int} (h : e ≠ 0) (l : List Int) : giv σ 12 (.tup [.nilS, .int .i64 e]) = some (.tup [ownI (if e = 0 then l else []), .int .i64 e]) ∧ (gids σ 12 (.tup [.nilS, .int .i64 e])).Nodup := by
  rw [if_neg h]
  exact giv_tup2 ⟨rfl, by simp [gids]⟩ rfl rfl
theorem iV_giv {σ : Sto} {n : Nat} {l : List Int} {v : V} (h : Pl σ 3 n 1 v (oL (l.map iV))) : giv σ 11 v = some (ownI l) ∧ (gids σ 11 v).Nodup := by
  cases l with
  | nil => simp only [List.map_nil, oL, Pl] at h; subst h; exact ⟨rfl, by simp [gids]⟩
  | cons x l =>
    simp only [List.map_cons, oL, Pl] at h
    obtain ⟨i, rfl, h1, -, -⟩ := h
    have e : iV x :: l.map iV = (x :: l).map iV := rfl
    rw [e] at h1 ⊢
    unfold ownI
    rw [if_neg (by simp)]
    generalize x :: l = L at *
    have hg : ∀ x ∈ L.map iV, elemM (giv σ 10) x = some x := by
      intro x hx
      obtain ⟨y, -, rfl⟩ := List.mem_map.1 hx
      rfl
    have hg' : ∀ x ∈ L.map iV, ∀ c ∈ x.cells, gids σ 10 c = [] := by
      intro x hx c hc
      obtain ⟨y, -, rfl⟩ := List.mem_map.1 hx
      simp only [iV, V.cells, List.mem_cons, List.not_mem_nil, or_false] at hc
      subst hc; rfl
    constructor
    · simp only [giv, h1, and_self, if_true]
      rw [mapM_id hg]; rfl
    · simp only [gids, h1]
      rw [List.flatMap_eq_nil_iff.2 fun x hx => List.flatMap_eq_nil_iff.2 fun c hc => hg' x hx c hc]
      simp
def near (q : Vc) (c : List Vc) (m : Int) : List Int := ((srt (ctH q c 0)).take m.toNat).map (·.id)
def ask10 : AC := (.reg [⟨(some 13), none, .mov (.tmp 44)⟩])
def bd10 : AC := (.block 1 (.reg [⟨(some 45), none, .load false 1 (.tmp 12)⟩,
       ⟨(some 46), none, .mov (.tmp 13)⟩,
       ⟨(some 47), none, .lit 1 [(.tmp 46)]⟩,
       ⟨(some 48), none, .append 1 8 (.tmp 45) (.tmp 47)⟩,
       ⟨none, none, .store 1 (.tmp 12) (.tmp 48)⟩]))
theorem w_ask10 (env : Nat → V) (σ : Sto) (n lk : Nat) (Q : Ex → St → Prop) : WC T ask10 env σ n lk Q = WC T (.reg [⟨(some 13), none, .mov (.tmp 44)⟩]) env σ n lk Q := rfl
theorem w_bd10 (env : Nat → V) (σ : Sto) (n lk : Nat) (Q : Ex → St → Prop) : WC T bd10 env σ n lk Q = WC T (.block 1 (.reg [⟨(some 45), none, .load false 1 (.tmp 12)⟩,
       ⟨(some 46), none, .mov (.tmp 13)⟩,
       ⟨(some 47), none, .lit 1 [(.tmp 46)]⟩,
       ⟨(some 48), none, .append 1 8 (.tmp 45) (.tmp 47)⟩,
       ⟨none, none, .store 1 (.tmp 12) (.tmp 48)⟩])) env σ n lk Q := rfl
structure J10 (env : Nat → V) (ids : List Int) (j : Nat) (σ : Sto) (n : Nat) : Prop where
  hn : 3 ≤ n
  s2 : σ 2 = some (.loop env [44] ask10 bd10 .ready none)
  s1 : ∃ v, σ 1 = some (.row 1 [v]) ∧ Pl σ 3 n 1 v (oL ((ids.take j).map iV))
theorem J10.frame {env : Nat → V} {ids : List Int} {j : Nat} {σ σ' : Sto} {n n' : Nat} (h : J10 env ids j σ n) (hn : n ≤ n') (hs : ∀ i, i < n → σ' i = σ i) : J10 env ids j σ' n' := by
  obtain ⟨h1, h2, v, h3, h4⟩ := h
  exact ⟨by omega, by rw [hs 2 (by omega), h2], v, by rw [hs 1 (by omega), h3], h4.loc (fun i a b => hs i b) hn⟩
theorem hy10 (env : Nat → V) (ids : List Int) (he : env 12 = .ptr 1 1 0 0) (j : Nat) (hj : j < ids.length) (hI : ids.length < 1000000) (x : Int) (hx : ids[j] = x) (σ : Sto) (n : Nat) (hJ : J10 env ids j σ n) (hn : 2 < n) :
    yieldW (run T) 2 [.int .i64 x] σ n 0 (fun y σ' n' => n ≤ n' ∧ y = .bool true ∧ J10 env ids (j + 1) σ' n') := by
  obtain ⟨h1, h2, v, h3, h4⟩ := hJ
  refine yieldW_gs h2 rfl (Nat.zero_le _) ?_
  have q0 : (2 = n) = False := by simp; omega
  have q1 : (n = 2) = False := by simp; omega
  have p2 : (1 = n) = False := by simp; omega
  have hc := h4.cells
  have ho := h4.one
  simp +contextual -implicitDefEqProofs (maxSteps := 2000000) only [↓wP, wQ, wQ1, wQ2, wQ3, wR, boxE, partsOf, ↓reduceIte, Nat.reduceEqDiff, Nat.reduceAdd, Nat.reduceSub, Nat.reduceLeDiff, Nat.reduceLT, Nat.reduceMul, reduceCtorEq, Int.reduceBNe, Int.reduceBEq, Int.reduceLT, Int.reduceLE, Int.reduceGT, bind_cons, bind_nil, w_ask10, w_bd10, he, h2, h3, q0, q1, p2, hc]
  have hlen : ((ids.take j).map iV).length = j := by rw [List.length_map, List.length_take]; omega
  refine stepW_app1 (m := 3) (n0 := n) (σ0 := σ) (o := oL ((ids.take j).map iV)) h4 (fun i g1 g2 => ?_) (by omega) (by omega) (Nat.zero_le _) ?_ (fun _ σ2 g1 g2 => ?_)
  · have a1 : i ≠ n := by omega
    have a2 : i ≠ 2 := by omega
    simp [upd, a1, a2]
  · rw [lst_oL, hlen]; unfold LIM; omega
  · rw [lst_oL, hlen] at g1 ⊢
    have hv : ∀ i, i < 3 → ∀ off len s, v ≠ .ref i off len s := by
      intro i hi off len s e
      subst e
      cases ho' : oL ((ids.take j).map iV) with
      | none => rw [ho'] at h4; simp only [Pl] at h4; cases h4
      | some xs => rw [ho'] at h4; obtain ⟨j, e, -, e2, -⟩ := h4; simp only [V.ref.injEq] at e; omega
    have t1 : σ2 1 = some (.row 1 [v]) := by rw [g2 1 (by omega) (hv 1 (by omega))]; simp [upd, p2, h3]
    have t2 : σ2 2 = some (.loop env [44] ask10 bd10 .busy none) := by rw [g2 2 (by omega) (hv 2 (by omega))]; simp [upd, q0]
    have hsp : ∀ c, spliceC v 0 [c] = c := fun c => by
      cases ho' : oL ((ids.take j).map iV) with
      | none => rw [ho'] at h4; simp only [Pl] at h4; subst h4; rfl
      | some xs => rw [ho'] at h4; obtain ⟨j, rfl, -⟩ := h4; rfl
    simp +contextual -implicitDefEqProofs (maxSteps := 2000000) only [↓wP, wQ, wQ1, wQ2, wQ3, wR, boxE, partsOf, ↓reduceIte, Nat.reduceEqDiff, Nat.reduceAdd, Nat.reduceSub, Nat.reduceLeDiff, Nat.reduceLT, Nat.reduceMul, reduceCtorEq, Int.reduceBNe, Int.reduceBEq, Int.reduceLT, Int.reduceLE, Int.reduceGT, he, t1, t2, hsp]
    have eo : oL ((ids.take (j + 1)).map iV) = some ((ids.take j).map iV ++ [.int .i64 x]) := by
      rw [show ids.take (j + 1) = ids.take j ++ [ids[j]] from (List.take_append_getElem hj).symm, List.map_append, hx]
      cases ids.take j <;> rfl
    refine .inl ⟨by omega, by omega, ?_, .ref (n + 1) 0 (j + 1) 1, ?_, ?_⟩
    · simp [upd]
    · simp [upd]
    · rw [eo]
      exact g1.loc (fun i a1 a2 => by
        have b1 : i ≠ 1 := by omega
        have b2 : i ≠ 2 := by omega
        simp [upd, b1, b2]) (Nat.le_refl _)
theorem near_len (q : Vc) (c : List Vc) (m : Int) (hm : 0 ≤ m) : (near q c m).length = min m.toNat c.length := by
  unfold near; rw [List.length_map, List.length_take, srt_len, ctH_len]
theorem ct_id {q : Vc} {c : List Vc} {h : Hit} (hh : h ∈ srt (ctH q c 0)) : 0 ≤ h.id ∧ h.id < c.length := by
  have := (srt_perm _).mem_iff.1 hh
  obtain ⟨p, hp, rfl⟩ := List.mem_map.1 this
  have := List.mem_zipIdx hp
  simp only
  omega
theorem WC_env {T : Tab} {c : AC} {env : Nat → V} {σ : Sto} {n lk : Nat} {Q : Ex → St → Prop} (h : ∀ e, e = env → WC T c e σ n lk Q) : WC T c env σ n lk Q := h _ rfl
theorem r10 (c : Option (List Vc)) (v : Vc) (m : Int) (hl : (lst c).length ≤ 7) (hv : ∀ v ∈ lst c, Sm v) (hv' : Sm v) : res T 10 [slV 1 vecV c, slV 1 i32V v, .int .i64 m] = some (.tup [ownI (if nrE c v m = 0 then near v (lst c) m else []), .int .i64 (nrE c v m)]) := by
  refine run_res (run_own (fn := g10) rfl rfl (by decide) ?_)
  simp only [g10, b10, oO, oN, mV, lD, gO, pP, qQ, cI, aR]
  have f1 := f21 m
  have f2 := f22 v hv'
  have f3 := f23 c hl hv
  by_cases ha : askE m = 0
  · have hm : 1 ≤ m := by unfold askE at ha; split at ha; cases ha; omega
    cases ho : okV v
    · rw [ho] at f2
      rw [ha] at f1
      have e : nrE c v m = 150 := by unfold nrE; rw [if_neg (by omega), ho]; rfl
      rw [e]
      simp +contextual -implicitDefEqProofs (maxSteps := 2000000) only [↓wP, wQ, wQ1, wQ2, wQ3, wR, boxE, partsOf, ↓reduceIte, Nat.reduceEqDiff, Nat.reduceAdd, Nat.reduceSub, Nat.reduceLeDiff, Nat.reduceLT, Nat.reduceMul, reduceCtorEq, Int.reduceBNe, Int.reduceBEq, Int.reduceLT, Int.reduceLE, Int.reduceGT, f1, f2]
      exact giv_none _ (by decide) _
    · rw [ho] at f2
      have e : nrE c v m = cnE c v := by unfold nrE; rw [if_neg (by omega), ho]; rfl
      rw [e]
      rw [ha] at f1
      by_cases ht : trE c = 0
      · rw [ht] at f3
        have hne : lst c ≠ [] := by intro h; unfold trE at ht; rw [if_pos h] at ht; cases ht
        have hc : cents c = true := by
          unfold trE at ht; rw [if_neg hne] at ht
          cases h : cents c
          · rw [h] at ht; cases ht
          · rfl
        obtain ⟨v0, hv0, hd⟩ := dm_get hne
        by_cases hx : dm c = (lst v).length
        · have hx' : (((lst v0).length : Int) != ((lst v).length : Int)) = false := by rw [← hd, hx]; simp
          have r := r24 v 0 0 m c hc hv hv' ho hx hne
          have f24 := callE_tr (by decide) r (by simp [srcV, Tr, Tr_slV]) (by simp [srcV, Nw])
          have e1 : cnE c v = 0 := by unfold cnE; rw [if_neg (by omega), if_pos hx]
          rw [e1]
          simp only [srcV] at f24
          simp +contextual -implicitDefEqProofs (maxSteps := 2000000) only [↓wP, wQ, wQ1, wQ2, wQ3, wR, boxE, partsOf, ↓reduceIte, Nat.reduceEqDiff, Nat.reduceAdd, Nat.reduceSub, Nat.reduceLeDiff, Nat.reduceLT, Nat.reduceMul, reduceCtorEq, Int.reduceBNe, Int.reduceBEq, Int.reduceLT, Int.reduceLE, Int.reduceGT, f1, f2, f3, hv0, vecV_eq, hx', f24]
          refine WC_env fun env hE => ?_
          have e43 : env 43 = .fn 48 [.box [.sl 2 (hs (srt (ctH v (lst c) 0)))], .box (srcV v 0 0 m c)] := by rw [hE]; rfl
          have e12 : env 12 = .ptr 1 1 0 0 := by rw [hE]; rfl
          clear hE
          have hlen : (srt (ctH v (lst c) 0)).length = (lst c).length := by rw [srt_len, ctH_len]
          have hnl : (near v (lst c) m).length = min m.toNat (lst c).length := near_len _ _ _ (by omega)
          refine WC_rangeF (f := 48) (caps := _) e43 (Nat.zero_le _) ?_
          refine run_mono _ _ _ (fun o ho => ?_) (iter48 v 0 0 m c (srt (ctH v (lst c) 0)) 2 (fun j σ n => J10 env (near v (lst c) m) j σ n) _ 3 (by omega) (by omega) (fun h hh => by have := ct_id hh; omega) (by omega) ?_ ?_ ?_)
          · cases o <;> try exact ho.elim
            rename_i vv σ' n'
            obtain ⟨h1, h2, u, h3, h4⟩ := ho
            refine ⟨_, _, _, _, _, _, h2, by decide, ?_⟩
            rw [hlen, ← hnl, List.take_length] at h4
            have t1 : upd σ' 2 none 1 = some (.row 1 [u]) := by simp [upd, h3]
            have hc := h4.cells
            have hp := h4.loc (σ' := upd σ' 2 none) (fun i a b => by
              have : i ≠ 2 := by omega
              simp [upd, this]) (Nat.le_refl _)
            have ho := h4.one
            have hg := iV_giv hp
            simp +contextual -implicitDefEqProofs (maxSteps := 2000000) only [↓wP, wQ, wQ1, wQ2, wQ3, wR, boxE, partsOf, ↓reduceIte, Nat.reduceEqDiff, Nat.reduceAdd, Nat.reduceSub, Nat.reduceLeDiff, Nat.reduceLT, Nat.reduceMul, reduceCtorEq, Int.reduceBNe, Int.reduceBEq, Int.reduceLT, Int.reduceLE, Int.reduceGT, Option.getD_none, e12, h3, hc, ho]
            exact giv_tup2 hg rfl rfl
          · exact fun j σ n σ' n' h a b => h.frame a b
          · intro j hj σ n hjm hJ hn
            have hj2 : j < (near v (lst c) m).length := by omega
            exact hy10 env _ e12 j hj2 (by omega) _ (by simp [near]) σ n hJ hn
          · exact ⟨by omega, by rfl, .nilS, by simp [upd], by simp [oL, Pl]⟩
        · have hx' : (((lst v0).length : Int) != ((lst v).length : Int)) = true := by rw [← hd]; simp; omega
          have e1 : cnE c v = 151 := by unfold cnE; rw [if_neg (by omega), if_neg hx]
          rw [e1]
          simp +contextual -implicitDefEqProofs (maxSteps := 2000000) only [↓wP, wQ, wQ1, wQ2, wQ3, wR, boxE, partsOf, ↓reduceIte, Nat.reduceEqDiff, Nat.reduceAdd, Nat.reduceSub, Nat.reduceLeDiff, Nat.reduceLT, Nat.reduceMul, reduceCtorEq, Int.reduceBNe, Int.reduceBEq, Int.reduceLT, Int.reduceLE, Int.reduceGT, f1, f2, f3, hv0, vecV_eq, hx']
          exact giv_none _ (by decide) _
      · have ht' : (trE c != 0) = true := by simpa using ht
        have e1 : cnE c v = trE c := by unfold cnE; rw [if_pos ht]
        rw [e1]
        simp +contextual -implicitDefEqProofs (maxSteps := 2000000) only [↓wP, wQ, wQ1, wQ2, wQ3, wR, boxE, partsOf, ↓reduceIte, Nat.reduceEqDiff, Nat.reduceAdd, Nat.reduceSub, Nat.reduceLeDiff, Nat.reduceLT, Nat.reduceMul, reduceCtorEq, Int.reduceBNe, Int.reduceBEq, Int.reduceLT, Int.reduceLE, Int.reduceGT, f1, f2, f3, ht']
        exact giv_none _ ht _
  · have ha' : (askE m != 0) = true := by simpa using ha
    have e : nrE c v m = askE m := by unfold nrE; rw [if_pos ha]
    rw [e]
    simp +contextual -implicitDefEqProofs (maxSteps := 2000000) only [↓wP, wQ, wQ1, wQ2, wQ3, wR, boxE, partsOf, ↓reduceIte, Nat.reduceEqDiff, Nat.reduceAdd, Nat.reduceSub, Nat.reduceLeDiff, Nat.reduceLT, Nat.reduceMul, reduceCtorEq, Int.reduceBNe, Int.reduceBEq, Int.reduceLT, Int.reduceLE, Int.reduceGT, f1, ha']
    exact giv_none _ ha _
end Go.Q.S14
end

section
/- The nearest centroids: what the document says. -/
set_option linter.unusedSimpArgs false
set_option linter.unusedVariables false
namespace Go.Q.S14
open Go.Q Go.Sort
def bst (out : List Int) (D : Nat → Int) : Nat → Int
  | 0 => -1
  | i + 1 => if (i : Int) ∈ out then bst out D i else if 0 ≤ bst out D i ∧ D (bst out D i).toNat ≤ D i then bst out D i else i
theorem bst_spec (out : List Int) (D : Nat → Int) : ∀ i, (bst out D i = -1 ∧ ∀ i' < i, (i' : Int) ∈ out) ∨ ∃ b : Nat, bst out D i = b ∧ b < i ∧ (b : Int) ∉ out ∧ ∀ i' < i, (i' : Int) ∉ out → D b < D i' ∨ (D b = D i' ∧ b ≤ i')
  | 0 => .inl ⟨rfl, fun i' h => by omega⟩
  | i + 1 => by
    unfold bst
    by_cases hm : (i : Int) ∈ out
    · rw [if_pos hm]
      rcases bst_spec out D i with ⟨h1, h2⟩ | ⟨b, h1, h2, h3, h4⟩
      · refine .inl ⟨h1, fun i' h => ?_⟩
        by_cases hi : i' = i
        · subst hi; exact hm
        · exact h2 i' (by omega)
      · refine .inr ⟨b, h1, by omega, h3, fun i' h hn => ?_⟩
        by_cases hi : i' = i
        · subst hi; exact absurd hm hn
        · exact h4 i' (by omega) hn
    · rw [if_neg hm]
      rcases bst_spec out D i with ⟨h1, h2⟩ | ⟨b, h1, h2, h3, h4⟩
      · rw [h1, if_neg (by omega)]
        refine .inr ⟨i, rfl, by omega, hm, fun i' h hn => ?_⟩
        by_cases hi : i' = i
        · subst hi; exact .inr ⟨rfl, Nat.le_refl _⟩
        · exact absurd (h2 i' (by omega)) hn
      · rw [h1]
        by_cases hd : D b ≤ D i
        · rw [if_pos ⟨by omega, by simpa using hd⟩]
          refine .inr ⟨b, rfl, by omega, h3, fun i' h hn => ?_⟩
          by_cases hi : i' = i
          · subst hi; omega
          · exact h4 i' (by omega) hn
        · rw [if_neg (by rintro ⟨-, h⟩; exact hd (by simpa using h))]
          refine .inr ⟨i, rfl, by omega, hm, fun i' h hn => ?_⟩
          by_cases hi : i' = i
          · subst hi; exact .inr ⟨rfl, Nat.le_refl _⟩
          · have := h4 i' (by omega) hn; omega
def dis (q : Vc) (c : List Vc) (i : Nat) : Int := distI ((c[i]?).getD none) q
theorem ct_get {q : Vc} {c : List Vc} {h : Hit} (hh : h ∈ ctH q c 0) : ∃ x : Nat, x < c.length ∧ h = ⟨x, dis q c x⟩ := by
  obtain ⟨i, hi, rfl⟩ := List.mem_iff_getElem.1 hh
  rw [ctH_len] at hi
  have := ctH_get q c i hi
  rw [List.getElem?_eq_getElem (by rw [ctH_len]; exact hi)] at this
  refine ⟨i, hi, ?_⟩
  rw [Option.some.inj this]
  simp [dis, hi]
theorem ct_mem (q : Vc) (c : List Vc) (x : Nat) (h : x < c.length) : (⟨x, dis q c x⟩ : Hit) ∈ ctH q c 0 := by
  have := ctH_get q c x h
  have := List.mem_of_getElem? this
  simpa [dis, h] using this
theorem ct_nodup (q : Vc) (c : List Vc) : ((srt (ctH q c 0)).map (·.id)).Nodup := by
  refine ((srt_perm _).map _).nodup_iff.2 ?_
  have : (ctH q c 0).map (·.id) = (List.range c.length).map (fun i : Nat => (i : Int)) := by
    refine List.ext_getElem? fun i => ?_
    simp only [List.getElem?_map, ctH, List.getElem?_zipIdx, List.map_map]
    by_cases h : i < c.length
    · simp [h]
    · simp [h]
  rw [this]
  unfold List.Nodup
  rw [List.pairwise_map]
  exact List.nodup_range.imp (fun h e => h (by omega))
theorem pick_bst (q : Vc) (c : List Vc) (P R : List Hit) (h : Hit) (hp : (P ++ h :: R).Perm (ctH q c 0)) (hs : Srt (P ++ h :: R)) (hnd : ((P ++ h :: R).map (·.id)).Nodup) : bst (P.map (·.id)) (dis q c) c.length = h.id := by
  have hm : h ∈ P ++ h :: R := by simp
  obtain ⟨x, hx, he⟩ := ct_get (hp.mem_iff.1 hm)
  simp only [List.map_append, List.map_cons, List.nodup_append, List.mem_cons, List.mem_map, List.mem_append] at hnd
  have hxo : (x : Int) ∉ P.map (·.id) := by
    intro hc
    obtain ⟨g, hg, e⟩ := List.mem_map.1 hc
    exact hnd.2.2 g.id ⟨g, hg, rfl⟩ h.id (.inl rfl) (by rw [he, e])
  rcases bst_spec (P.map (·.id)) (dis q c) c.length with ⟨h1, h2⟩ | ⟨b, h1, h2, h3, h4⟩
  · exact absurd (h2 x hx) hxo
  · rw [h1, he]
    have hb := hp.mem_iff.2 (ct_mem q c b h2)
    rcases List.mem_append.1 hb with hb | hb
    · exact absurd (List.mem_map.2 ⟨_, hb, rfl⟩) h3
    · rcases List.mem_cons.1 hb with hb | hb
      · rw [he] at hb
        exact congrArg Hit.id hb
      · have h5 := (List.pairwise_cons.1 (List.pairwise_append.1 hs).2.1).1 _ hb
        have h6 := h4 x hx hxo
        rw [he] at h5
        unfold ahead at h5
        simp only [Bool.or_eq_false_iff, Bool.and_eq_false_iff, decide_eq_false_iff_not, beq_eq_false_iff_ne] at h5
        show (b : Int) = x
        omega
theorem near_bst (q : Vc) (c : List Vc) (j : Nat) (hj : j < (srt (ctH q c 0)).length) : bst (((srt (ctH q c 0)).take j).map (·.id)) (dis q c) c.length = ((srt (ctH q c 0))[j]).id := by
  have hsp : (srt (ctH q c 0)).take j ++ (srt (ctH q c 0))[j] :: (srt (ctH q c 0)).drop (j + 1) = srt (ctH q c 0) := by rw [← List.drop_eq_getElem_cons (by omega), List.take_append_drop]
  exact pick_bst q c _ ((srt (ctH q c 0)).drop (j + 1)) _ (by rw [hsp]; exact srt_perm _) (by rw [hsp]; exact srt_srt _) (by rw [hsp]; exact ct_nodup q c)
theorem r27 (o : Option (List Int)) (x : Int) (hl : (lst o).length < 9223372036854775808) : res T 27 [slV 1 iV o, .int .i64 x] = some (.bool (decide (x ∈ lst o))) := by
  refine run_res (run_pure (fn := g27) rfl rfl (by decide) ?_)
  simp only [g27, b27, oO, oN, mV, lD, gO, pP, qQ, cI, aR]
  simp +contextual -implicitDefEqProofs (maxSteps := 2000000) only [↓wP, wQ, wQ1, wQ2, wQ3, wR, boxE, partsOf, ↓reduceIte, Nat.reduceEqDiff, Nat.reduceAdd, Nat.reduceSub, Nat.reduceLeDiff, Nat.reduceLT, Nat.reduceMul, reduceCtorEq, Int.reduceBNe, Int.reduceBEq, Int.reduceLT, Int.reduceLE, Int.reduceGT]
  refine WC_for (lst o).length 0 (fun (j : Nat) env _ _ => env 1 = .int .i64 x ∧ env 7 = slV 1 iV o ∧ decide (x ∈ lst o) = decide (x ∈ (lst o).drop j)) (by omega) (by decide) (by decide) (fun _ _ => rfl) (fun _ _ _ => rfl) ?_ ?_ _ _ _ rfl rfl ?_
  · intro j env σ n hj h1 h2 ⟨h3, h4, h5⟩
    simp only [vl_tmp] at h2
    have hx : (lst o)[j]? = some (lst o)[j] := List.getElem?_eq_getElem hj
    rw [List.drop_eq_getElem_cons hj] at h5
    generalize (lst o)[j] = y at *
    by_cases he : y = x
    · subst he
      simp +contextual -implicitDefEqProofs (maxSteps := 2000000) only [↓wP, wQ, wQ1, wQ2, wQ3, wR, boxE, partsOf, ↓reduceIte, Nat.reduceEqDiff, Nat.reduceAdd, Nat.reduceSub, Nat.reduceLeDiff, Nat.reduceLT, Nat.reduceMul, reduceCtorEq, Int.reduceBNe, Int.reduceBEq, Int.reduceLT, Int.reduceLE, Int.reduceGT, h1, h2, h3, h4, hx, iV_eq]
      rw [h5]; simp
    · have he' : (y == x) = false := by simpa using he
      simp +contextual -implicitDefEqProofs (maxSteps := 2000000) only [↓wP, wQ, wQ1, wQ2, wQ3, wR, boxE, partsOf, ↓reduceIte, Nat.reduceEqDiff, Nat.reduceAdd, Nat.reduceSub, Nat.reduceLeDiff, Nat.reduceLT, Nat.reduceMul, reduceCtorEq, Int.reduceBNe, Int.reduceBEq, Int.reduceLT, Int.reduceLE, Int.reduceGT, h1, h2, h3, h4, hx, iV_eq, he']
      rw [h5]; simp [Ne.symm he]
  · intro env σ n ⟨h3, h4, h5⟩ h1 h2
    rw [List.drop_length] at h5
    simp +contextual -implicitDefEqProofs (maxSteps := 2000000) only [↓wP, wQ, wQ1, wQ2, wQ3, wR, boxE, partsOf, ↓reduceIte, Nat.reduceEqDiff, Nat.reduceAdd, Nat.reduceSub, Nat.reduceLeDiff, Nat.reduceLT, Nat.reduceMul, reduceCtorEq, Int.reduceBNe, Int.reduceBEq, Int.reduceLT, Int.reduceLE, Int.reduceGT]
    rw [h5]; rfl
  · simp +contextual -implicitDefEqProofs (maxSteps := 2000000) only [↓wP, wQ, wQ1, wQ2, wQ3, wR, boxE, partsOf, ↓reduceIte, Nat.reduceEqDiff, Nat.reduceAdd, Nat.reduceSub, Nat.reduceLeDiff, Nat.reduceLT, Nat.reduceMul, reduceCtorEq, Int.reduceBNe, Int.reduceBEq, Int.reduceLT, Int.reduceLE, Int.reduceGT]
theorem f27 (o : Option (List Int)) (x : Int) (hl : (lst o).length < 9223372036854775808) (fs : Bool) (σ : Sto) (n lk : Nat) : callE T fs 27 [slV 1 iV o, .int .i64 x] σ n lk = some (.bool (decide (x ∈ lst o)), σ, n) :=
  callE_tr (by decide) (r27 o x hl) (by simp [Tr, Tr_slV]) rfl fs σ n lk
theorem f27p {σ : Sto} {m n : Nat} {v : V} {l : List Int} (h : Pl σ m n 1 v (oL (l.map iV))) (x : Int) (hl : l.length < 1000000) (fs : Bool) (n' lk : Nat) : callE T fs 27 [v, .int .i64 x] σ n' lk = some (.bool (decide (x ∈ l)), σ, n') := by
  have hf := h.frz (fun x hx => by rw [lst_oL] at hx; obtain ⟨y, -, rfl⟩ := List.mem_map.1 hx; rfl) (fun x hx c hc => by
    rw [lst_oL] at hx; obtain ⟨y, -, rfl⟩ := List.mem_map.1 hx
    simp only [iV, V.cells, List.mem_cons, List.not_mem_nil, or_false] at hc
    subst hc; rfl)
  have e : [v, V.int .i64 x].mapM (frz σ 12) = some [slV 1 iV (oL l), .int .i64 x] := by
    rw [slV_oL] at hf
    simp only [List.mapM_cons, List.mapM_nil, hf, frz_int]; rfl
  have r := r27 (oL l) x (by rw [lst_oL]; omega)
  rw [lst_oL] at r
  rw [callE_flat (by decide) e r rfl]; rfl
end Go.Q.S14
end

section
/- The nearest centroids: the document's walk. -/
set_option linter.unusedSimpArgs false
set_option linter.unusedVariables false
namespace Go.Q.S14
open Go.Q Go.Sort
theorem r12 (c : Option (List Vc)) (q : Vc) (m : Int) (hl : (lst c).length ≤ 7) (h2 : ∀ v ∈ lst c, Two v q) (hm : 1 ≤ m) : res T 12 [slV 1 vecV c, slV 1 i32V q, .int .i64 m] = some (slV 1 iV (oL (near q (lst c) m))) := by
  refine run_res (run_pure (fn := g12) rfl rfl (by decide) ?_)
  simp only [g12, b12, oO, oN, mV, lD, gO, pP, qQ, cI, aR]
  obtain ⟨S, hS⟩ : ∃ S, S = srt (ctH q (lst c) 0) := ⟨_, rfl⟩
  have hlen : S.length = (lst c).length := by rw [hS, srt_len, ctH_len]
  have hb := near_bst q (lst c)
  rw [← hS] at hb
  unfold near
  rw [← hS]
  clear hS
  obtain ⟨N, hN⟩ : ∃ N, N = min m.toNat (lst c).length := ⟨_, rfl⟩
  have hmin : (if ((lst c).length : Int) < m then ((lst c).length : Int) else m) = (N : Int) := by split <;> omega
  simp +contextual -implicitDefEqProofs (maxSteps := 2000000) only [↓wP, wQ, wQ1, wQ2, wQ3, wR, boxE, partsOf, ↓reduceIte, Nat.reduceEqDiff, Nat.reduceAdd, Nat.reduceSub, Nat.reduceLeDiff, Nat.reduceLT, Nat.reduceMul, reduceCtorEq, Int.reduceBNe, Int.reduceBEq, Int.reduceLT, Int.reduceLE, Int.reduceGT]
  refine WC_loopI 0 (fun (j : Nat) env σ n => j ≤ N ∧ env 0 = slV 1 vecV c ∧ env 1 = slV 1 i32V q ∧ env 2 = .int .i64 m ∧ ∃ v, env 7 = v ∧ Pl σ 0 n 1 v (oL (((S.take j).map (·.id)).map iV))) (fun j => N - j) ?_ 0 _ _ _ ?_
  · intro j env σ n ⟨g1, g2, g3, g4, v, g5, g6⟩
    have hc := g6.cells
    have ho := g6.one
    have hjl : ((S.take j).map (·.id)).length = j := by rw [List.length_map, List.length_take]; omega
    have hle : lenE v = some (.int .i64 (j : Int)) := by
      have : (((S.take j).map (·.id)).map iV).length = j := by rw [List.length_map, hjl]
      cases ho' : oL (((S.take j).map (·.id)).map iV) with
      | none => 
        rw [ho'] at g6; simp only [Pl] at g6; subst g6
        cases hx : ((S.take j).map (·.id)).map iV with
        | nil => rw [hx] at this; simp at this; subst this; rfl
        | cons a b => rw [hx] at ho'; cases ho'
      | some xs =>
        rw [ho'] at g6; obtain ⟨i, rfl, -⟩ := g6
        have e : xs = ((S.take j).map (·.id)).map iV := by have := congrArg lst ho'; rw [lst_oL] at this; exact this.symm
        rw [e, this]; rfl
    by_cases hj : j < N
    · have hj' : (j : Int) < (N : Int) := by omega
      simp +contextual -implicitDefEqProofs (maxSteps := 2000000) only [↓wP, wQ, wQ1, wQ2, wQ3, wR, boxE, partsOf, ↓reduceIte, Nat.reduceEqDiff, Nat.reduceAdd, Nat.reduceSub, Nat.reduceLeDiff, Nat.reduceLT, Nat.reduceMul, reduceCtorEq, Int.reduceBNe, Int.reduceBEq, Int.reduceLT, Int.reduceLE, Int.reduceGT, g2, g3, g4, g5, hle, hj', hmin]
      obtain ⟨out, hout⟩ : ∃ out, out = (S.take j).map (·.id) := ⟨_, rfl⟩
      rw [← hout] at g6 hjl
      refine WC_for (lst c).length 0 (fun (i : Nat) env σ' n' => σ' = σ ∧ n' = n ∧ env 0 = slV 1 vecV c ∧ env 1 = slV 1 i32V q ∧ env 2 = .int .i64 m ∧ env 7 = v ∧ env 8 = .int .i64 (bst out (dis q (lst c)) i)) (by omega) (by decide) (by decide) (fun _ _ => rfl) (fun _ _ _ => rfl) ?_ ?_ _ _ _ rfl rfl ?_
      · intro i env σ' n' hi e1 e2 ⟨k1, k2, k3, k4, k5, k6, k7⟩
        subst k1 k2
        simp only [vl_tmp] at e2
        have f27' := f27p g6 (i : Int) (by omega)
        have hx : (lst c)[i]? = some (lst c)[i] := List.getElem?_eq_getElem hi
        have hst : bst out (dis q (lst c)) (i + 1) = if (i : Int) ∈ out then bst out (dis q (lst c)) i else if 0 ≤ bst out (dis q (lst c)) i ∧ dis q (lst c) (bst out (dis q (lst c)) i).toNat ≤ dis q (lst c) i then bst out (dis q (lst c)) i else i := rfl
        rcases bst_spec out (dis q (lst c)) i with ⟨b1, -⟩ | ⟨b, b1, b2, -, -⟩
        · rw [b1] at k7 hst
          by_cases hm : (i : Int) ∈ out
          · rw [if_pos hm] at hst
            simp +contextual -implicitDefEqProofs (maxSteps := 2000000) only [↓wP, wQ, wQ1, wQ2, wQ3, wR, boxE, partsOf, ↓reduceIte, Nat.reduceEqDiff, Nat.reduceAdd, Nat.reduceSub, Nat.reduceLeDiff, Nat.reduceLT, Nat.reduceMul, reduceCtorEq, Int.reduceBNe, Int.reduceBEq, Int.reduceLT, Int.reduceLE, Int.reduceGT, e1, e2, k3, k4, k5, k6, k7, f27', hm]
            exact congrArg (V.int .i64) hst.symm
          · rw [if_neg hm, if_neg (by omega)] at hst
            have z : (0 : Int) ≤ -1 ↔ False := by decide
            simp +contextual -implicitDefEqProofs (maxSteps := 2000000) only [↓wP, wQ, wQ1, wQ2, wQ3, wR, boxE, partsOf, ↓reduceIte, Nat.reduceEqDiff, Nat.reduceAdd, Nat.reduceSub, Nat.reduceLeDiff, Nat.reduceLT, Nat.reduceMul, reduceCtorEq, Int.reduceBNe, Int.reduceBEq, Int.reduceLT, Int.reduceLE, Int.reduceGT, e1, e2, k3, k4, k5, k6, k7, f27', hm, z]
            exact congrArg (V.int .i64) hst.symm
        · rw [b1] at k7 hst
          by_cases hm : (i : Int) ∈ out
          · rw [if_pos hm] at hst
            simp +contextual -implicitDefEqProofs (maxSteps := 2000000) only [↓wP, wQ, wQ1, wQ2, wQ3, wR, boxE, partsOf, ↓reduceIte, Nat.reduceEqDiff, Nat.reduceAdd, Nat.reduceSub, Nat.reduceLeDiff, Nat.reduceLT, Nat.reduceMul, reduceCtorEq, Int.reduceBNe, Int.reduceBEq, Int.reduceLT, Int.reduceLE, Int.reduceGT, e1, e2, k3, k4, k5, k6, k7, f27', hm]
            exact congrArg (V.int .i64) hst.symm
          · rw [if_neg hm] at hst
            have hbl : b < (lst c).length := by omega
            have hxb : (lst c)[b]? = some (lst c)[b] := List.getElem?_eq_getElem hbl
            have d1 := f28 (lst c)[i] q (h2 _ (List.getElem_mem hi))
            have d2 := f28 (lst c)[b] q (h2 _ (List.getElem_mem hbl))
            have q1 : dis q (lst c) i = distI (lst c)[i] q := by simp [dis, hi]
            have q2 : dis q (lst c) b = distI (lst c)[b] q := by simp [dis, hbl]
            have z : (0 : Int) ≤ (b : Int) := by omega
            rw [Int.toNat_natCast, q1, q2] at hst
            generalize (lst c)[i] = x at *
            generalize (lst c)[b] = y at *
            by_cases hd : distI y q ≤ distI x q
            · rw [if_pos ⟨z, hd⟩] at hst
              simp +contextual -implicitDefEqProofs (maxSteps := 2000000) only [↓wP, wQ, wQ1, wQ2, wQ3, wR, boxE, partsOf, ↓reduceIte, Nat.reduceEqDiff, Nat.reduceAdd, Nat.reduceSub, Nat.reduceLeDiff, Nat.reduceLT, Nat.reduceMul, reduceCtorEq, Int.reduceBNe, Int.reduceBEq, Int.reduceLT, Int.reduceLE, Int.reduceGT, e1, e2, k3, k4, k5, k6, k7, f27', hm, z, hx, hxb, vecV_eq, d1, d2, hd]
              exact congrArg (V.int .i64) hst.symm
            · rw [if_neg (by rintro ⟨-, h⟩; exact hd h)] at hst
              simp +contextual -implicitDefEqProofs (maxSteps := 2000000) only [↓wP, wQ, wQ1, wQ2, wQ3, wR, boxE, partsOf, ↓reduceIte, Nat.reduceEqDiff, Nat.reduceAdd, Nat.reduceSub, Nat.reduceLeDiff, Nat.reduceLT, Nat.reduceMul, reduceCtorEq, Int.reduceBNe, Int.reduceBEq, Int.reduceLT, Int.reduceLE, Int.reduceGT, e1, e2, k3, k4, k5, k6, k7, f27', hm, z, hx, hxb, vecV_eq, d1, d2, hd]
              exact congrArg (V.int .i64) hst.symm
      · intro env σ' n' ⟨k1, k2, k3, k4, k5, k6, k7⟩ e1 e2
        subst k1 k2
        have hbj := hb j (by omega)
        rw [← hout] at hbj
        rw [hbj] at k7
        simp +contextual -implicitDefEqProofs (maxSteps := 2000000) only [↓wP, wQ, wQ1, wQ2, wQ3, wR, boxE, partsOf, ↓reduceIte, Nat.reduceEqDiff, Nat.reduceAdd, Nat.reduceSub, Nat.reduceLeDiff, Nat.reduceLT, Nat.reduceMul, reduceCtorEq, Int.reduceBNe, Int.reduceBEq, Int.reduceLT, Int.reduceLE, Int.reduceGT, k3, k4, k5, k6, k7]
        have hlen1 : (out.map iV).length = j := by rw [List.length_map, hjl]
        refine stepW_app1 (m := 0) (n0 := n') (σ0 := σ') (o := oL (out.map iV)) g6 (fun i a1 a2 => ?_) (by omega) (by omega) (Nat.zero_le _) ?_ (fun _ σ2 a1 a2 => ?_)
        · have a3 : i ≠ n' := by omega
          simp [upd, a3]
        · rw [lst_oL, hlen1]; unfold LIM; omega
        · rw [lst_oL, hlen1] at a1 ⊢
          simp +contextual -implicitDefEqProofs (maxSteps := 2000000) only [↓wP, wQ, wQ1, wQ2, wQ3, wR, boxE, partsOf, ↓reduceIte, Nat.reduceEqDiff, Nat.reduceAdd, Nat.reduceSub, Nat.reduceLeDiff, Nat.reduceLT, Nat.reduceMul, reduceCtorEq, Int.reduceBNe, Int.reduceBEq, Int.reduceLT, Int.reduceLE, Int.reduceGT, k3, k4, k5, k6]
          refine ⟨j + 1, by omega, by omega, _, rfl, ?_⟩
          have eo : oL (((S.take (j + 1)).map (·.id)).map iV) = some (out.map iV ++ [.int .i64 (S[j]'(by omega)).id]) := by
            rw [show S.take (j + 1) = S.take j ++ [S[j]'(by omega)] from (List.take_append_getElem (by omega)).symm, List.map_append, ← hout]
            rw [List.map_append]
            cases out <;> rfl
          rw [eo]
          exact a1
      · simp +contextual -implicitDefEqProofs (maxSteps := 2000000) only [↓wP, wQ, wQ1, wQ2, wQ3, wR, boxE, partsOf, ↓reduceIte, Nat.reduceEqDiff, Nat.reduceAdd, Nat.reduceSub, Nat.reduceLeDiff, Nat.reduceLT, Nat.reduceMul, reduceCtorEq, Int.reduceBNe, Int.reduceBEq, Int.reduceLT, Int.reduceLE, Int.reduceGT, g2, g3, g4, g5]
        rfl
    · have hj' : ¬ (j : Int) < (N : Int) := by omega
      simp +contextual -implicitDefEqProofs (maxSteps := 2000000) only [↓wP, wQ, wQ1, wQ2, wQ3, wR, boxE, partsOf, ↓reduceIte, Nat.reduceEqDiff, Nat.reduceAdd, Nat.reduceSub, Nat.reduceLeDiff, Nat.reduceLT, Nat.reduceMul, reduceCtorEq, Int.reduceBNe, Int.reduceBEq, Int.reduceLT, Int.reduceLE, Int.reduceGT, g2, g3, g4, g5, hle, hj', hmin]
      have e : S.take m.toNat = S.take j := by
        by_cases hmj : m.toNat ≤ (lst c).length
        · rw [show m.toNat = j by omega]
        · rw [List.take_of_length_le (by omega), List.take_of_length_le (by omega)]
      rw [e]
      have hf := g6.frz (fun x hx => by rw [lst_oL] at hx; obtain ⟨y, -, rfl⟩ := List.mem_map.1 hx; rfl) (fun x hx c hc => by
        rw [lst_oL] at hx; obtain ⟨y, -, rfl⟩ := List.mem_map.1 hx
        simp only [iV, V.cells, List.mem_cons, List.not_mem_nil, or_false] at hc
        subst hc; rfl)
      rw [hf, slV_oL]
  · simp +contextual -implicitDefEqProofs (maxSteps := 2000000) only [↓wP, wQ, wQ1, wQ2, wQ3, wR, boxE, partsOf, ↓reduceIte, Nat.reduceEqDiff, Nat.reduceAdd, Nat.reduceSub, Nat.reduceLeDiff, Nat.reduceLT, Nat.reduceMul, reduceCtorEq, Int.reduceBNe, Int.reduceBEq, Int.reduceLT, Int.reduceLE, Int.reduceGT]
    simp [oL, Pl]
theorem f12 (c : Option (List Vc)) (q : Vc) (m : Int) (hl : (lst c).length ≤ 7) (h2 : ∀ v ∈ lst c, Two v q) (hm : 1 ≤ m) (fs : Bool) (σ : Sto) (n lk : Nat) :
    callE T fs 12 [slV 1 vecV c, slV 1 i32V q, .int .i64 m] σ n lk = some (slV 1 iV (oL (near q (lst c) m)), σ, n) :=
  callE_tr (by decide) (r12 c q m hl h2 hm) (by simp [Tr, Tr_slV]) (Nw_slV _ _ _ _) fs σ n lk
end Go.Q.S14
end

section
/- Vectors that can be gone through. -/
set_option linter.unusedSimpArgs false
set_option linter.unusedVariables false
namespace Go.Q.S14
open Go.Q Go.Sort
theorem r9 (v : Vc) (hv : Sm v) : res T 9 [slV 1 i32V v] = some (slV 1 i32V (some ((lst v).take 5))) := by
  refine run_res (run_pure (fn := g9) rfl rfl (by decide) ?_)
  simp only [g9, b9, oO, oN, mV, lD, gO, pP, qQ, cI, aR]
  obtain ⟨N, hN⟩ : ∃ N, N = min (lst v).length 5 := ⟨_, rfl⟩
  have hmin : (if (5 : Int) < ((lst v).length : Int) then (5 : Int) else ((lst v).length : Int)) = (N : Int) := by split <;> omega
  unfold Sm at hv
  have hNl : N ≤ (lst v).length := by omega
  have hs : lst (sub v 0 N) = (lst v).take 5 := by
    rw [show (lst v).take 5 = (lst v).take N by rw [hN]; exact (List.take_eq_take_min).trans (by rw [Nat.min_comm])]
    cases v <;> simp [sub, lst]
  have hl5 : ((lst v).take 5).length ≤ 5 := by rw [List.length_take]; omega
  have hL : (((lst v).take 5).map i32V).length * 4 ≤ LIM := by rw [List.length_map]; unfold LIM; omega
  generalize (lst v).take 5 = L at *
  simp +contextual -implicitDefEqProofs (maxSteps := 2000000) only [↓wP, wQ, wQ1, wQ2, wQ3, wR, boxE, partsOf, ↓reduceIte, Nat.reduceEqDiff, Nat.reduceAdd, Nat.reduceSub, Nat.reduceLeDiff, Nat.reduceLT, Nat.reduceMul, reduceCtorEq, Int.reduceBNe, Int.reduceBEq, Int.reduceLT, Int.reduceLE, Int.reduceGT, hmin, hNl, hs, hL, true_or]
  have e1 : elems (upd (upd (upd Sto.empty 0 (some (Ob.row 1 []))) 0 none) 1 (some (Ob.row 1 (L.map i32V)))) 1 (.ref 1 0 (L.map i32V).length 1) = some (L.map i32V) := by simp [elems, upd]; exact List.take_of_length_le (by simp)
  show (elems _ _ _).bind _ = _
  rw [e1, Option.bind_some, mapM_id (fun x hx => by obtain ⟨y, -, rfl⟩ := List.mem_map.1 hx; rfl)]
  rfl
def cut (v : Vc) : Vc := some ((lst v).take 5)
theorem f9 (v : Vc) (hv : Sm v) (fs : Bool) (σ : Sto) (n lk : Nat) : callE T fs 9 [slV 1 i32V v] σ n lk = some (slV 1 i32V (cut v), σ, n) :=
  callE_tr (by decide) (r9 v hv) (by simp [Tr, Tr_slV]) (Nw_slV _ _ _ _) fs σ n lk
theorem spl {σ : Sto} {m n sz : Nat} {v : V} {o : Option (List V)} (h : Pl σ m n sz v o) (c : V) : spliceC v 0 [c] = c := by
  cases o with
  | none => simp only [Pl] at h; subst h; rfl
  | some xs => obtain ⟨j, rfl, -⟩ := h; rfl
def cutV (l : Option (List Vc)) : Option (List Vc) := oL (((lst l).take 7).map cut)
theorem r8 (l : Option (List Vc)) (hl : (lst l).length < 4611686018427387904) (hv : ∀ v ∈ lst l, Sm v) : res T 8 [slV 1 vecV l] = some (slV 1 vecV (cutV l)) := by
  refine run_res (run_pure (fn := g8) rfl rfl (by decide) ?_)
  simp only [g8, b8, oO, oN, mV, lD, gO, pP, qQ, cI, aR]
  simp +contextual -implicitDefEqProofs (maxSteps := 2000000) only [↓wP, wQ, wQ1, wQ2, wQ3, wR, boxE, partsOf, ↓reduceIte, Nat.reduceEqDiff, Nat.reduceAdd, Nat.reduceSub, Nat.reduceLeDiff, Nat.reduceLT, Nat.reduceMul, reduceCtorEq, Int.reduceBNe, Int.reduceBEq, Int.reduceLT, Int.reduceLE, Int.reduceGT]
  refine WC_for (lst l).length 0 (fun (j : Nat) env σ n => env 6 = slV 1 vecV l ∧ ∃ v, env 3 = v ∧ Pl σ 0 n 1 v (oL ((((lst l).take (min j 7)).map cut).map vecV))) (by omega) (by decide) (by decide) (fun _ _ => rfl) (fun _ _ _ => rfl) ?_ ?_ _ _ _ rfl rfl ?_
  · intro j env σ n hj h1 h2 ⟨h3, v, h4, h5⟩
    simp only [vl_tmp] at h2
    have hx : (lst l)[j]? = some (lst l)[j] := List.getElem?_eq_getElem hj
    have f := f9 _ (hv _ (List.getElem_mem hj))
    have ht : (lst l).take (j + 1) = (lst l).take j ++ [(lst l)[j]] := (List.take_append_getElem hj).symm
    generalize (lst l)[j] = x at *
    have hc := h5.cells
    have ho := h5.one
    have hsp := spl h5
    by_cases h6 : (j : Int) ≤ 6
    · rw [show min j 7 = j by omega] at h5
      have hlen : ((((lst l).take j).map cut).map vecV).length = j := by rw [List.length_map, List.length_map, List.length_take]; omega
      simp +contextual -implicitDefEqProofs (maxSteps := 2000000) only [↓wP, wQ, wQ1, wQ2, wQ3, wR, boxE, partsOf, ↓reduceIte, Nat.reduceEqDiff, Nat.reduceAdd, Nat.reduceSub, Nat.reduceLeDiff, Nat.reduceLT, Nat.reduceMul, reduceCtorEq, Int.reduceBNe, Int.reduceBEq, Int.reduceLT, Int.reduceLE, Int.reduceGT, h1, h2, h3, h4, hx, vecV_eq, h6, f]
      refine stepW_app1 (m := 0) (n0 := n) (σ0 := σ) h5 (fun i g1 g2 => ?_) (by omega) (by omega) (Nat.zero_le _) ?_ (fun _ σ2 g1 g2 => ?_)
      · have a1 : i ≠ n := by omega
        simp [upd, a1]
      · rw [lst_oL, hlen]; unfold LIM; omega
      · rw [lst_oL, hlen] at g1 ⊢
        simp +contextual -implicitDefEqProofs (maxSteps := 2000000) only [↓wP, wQ, wQ1, wQ2, wQ3, wR, boxE, partsOf, ↓reduceIte, Nat.reduceEqDiff, Nat.reduceAdd, Nat.reduceSub, Nat.reduceLeDiff, Nat.reduceLT, Nat.reduceMul, reduceCtorEq, Int.reduceBNe, Int.reduceBEq, Int.reduceLT, Int.reduceLE, Int.reduceGT, h1, h2, h3, hc, hsp]
        refine ⟨_, rfl, ?_⟩
        rw [show min (j + 1) 7 = j + 1 by omega, ht, List.map_append, List.map_append]
        have eo : oL (((lst l).take j).map cut |>.map vecV) = oL (((lst l).take j).map cut |>.map vecV) := rfl
        have e2 : oL ((((lst l).take j).map cut).map vecV ++ [vecV (cut x)]) = some ((((lst l).take j).map cut).map vecV ++ [vecV (cut x)]) := by
          cases ((lst l).take j) <;> rfl
        simp only [List.map_cons, List.map_nil]
        rw [e2]
        exact g1
    · simp +contextual -implicitDefEqProofs (maxSteps := 2000000) only [↓wP, wQ, wQ1, wQ2, wQ3, wR, boxE, partsOf, ↓reduceIte, Nat.reduceEqDiff, Nat.reduceAdd, Nat.reduceSub, Nat.reduceLeDiff, Nat.reduceLT, Nat.reduceMul, reduceCtorEq, Int.reduceBNe, Int.reduceBEq, Int.reduceLT, Int.reduceLE, Int.reduceGT, h1, h2, h3, h4, hx, vecV_eq, h6]
      rw [show min (j + 1) 7 = min j 7 by omega]
      exact ⟨_, rfl, h5⟩
  · intro env σ n ⟨h3, v, h4, h5⟩ h1 h2
    simp +contextual -implicitDefEqProofs (maxSteps := 2000000) only [↓wP, wQ, wQ1, wQ2, wQ3, wR, boxE, partsOf, ↓reduceIte, Nat.reduceEqDiff, Nat.reduceAdd, Nat.reduceSub, Nat.reduceLeDiff, Nat.reduceLT, Nat.reduceMul, reduceCtorEq, Int.reduceBNe, Int.reduceBEq, Int.reduceLT, Int.reduceLE, Int.reduceGT, h4]
    have hf := h5.frz (fun x hx => by rw [lst_oL] at hx; obtain ⟨y, -, rfl⟩ := List.mem_map.1 hx; exact Tr_slV _ _ _ _) (fun x hx c hc => by
        rw [lst_oL] at hx; obtain ⟨y, -, rfl⟩ := List.mem_map.1 hx
        rw [vecV_eq, cl_slV, List.mem_singleton] at hc
        subst hc; exact Tr_slV _ _ _ _)
    rw [hf, slV_oL]
    have : (lst l).take (min (lst l).length 7) = (lst l).take 7 := by rw [Nat.min_comm]; exact List.take_eq_take_min.symm
    rw [this]; rfl
  · simp +contextual -implicitDefEqProofs (maxSteps := 2000000) only [↓wP, wQ, wQ1, wQ2, wQ3, wR, boxE, partsOf, ↓reduceIte, Nat.reduceEqDiff, Nat.reduceAdd, Nat.reduceSub, Nat.reduceLeDiff, Nat.reduceLT, Nat.reduceMul, reduceCtorEq, Int.reduceBNe, Int.reduceBEq, Int.reduceLT, Int.reduceLE, Int.reduceGT]
    simp [oL, Pl]
theorem f8 (l : Option (List Vc)) (hl : (lst l).length < 4611686018427387904) (hv : ∀ v ∈ lst l, Sm v) (fs : Bool) (σ : Sto) (n lk : Nat) : callE T fs 8 [slV 1 vecV l] σ n lk = some (slV 1 vecV (cutV l), σ, n) :=
  callE_tr (by decide) (r8 l hl hv) (by simp [Tr, Tr_slV]) (Nw_slV _ _ _ _) fs σ n lk
theorem cut_sm (v : Vc) : Sm (cut v) := by unfold Sm cut; rw [lst_some, List.length_take]; omega
theorem cutV_len (l : Option (List Vc)) : (lst (cutV l)).length ≤ 7 := by unfold cutV; rw [lst_oL, List.length_map, List.length_take]; omega
theorem cutV_sm (l : Option (List Vc)) : ∀ v ∈ lst (cutV l), Sm v := by
  intro v hv
  unfold cutV at hv
  rw [lst_oL] at hv
  obtain ⟨x, -, rfl⟩ := List.mem_map.1 hv
  exact cut_sm x
theorem f10 (c : Option (List Vc)) (v : Vc) (m : Int) (hl : (lst c).length ≤ 7) (hv : ∀ v ∈ lst c, Sm v) (hv' : Sm v) (fs : Bool) (σ : Sto) (n lk : Nat) :
    ∃ L, L = (if nrE c v m = 0 then near v (lst c) m else []) ∧ callE T fs 10 [slV 1 vecV c, slV 1 i32V v, .int .i64 m] σ n lk = some (.tup [iVal n L, .int .i64 (nrE c v m)], iSto σ n L, iN n L) := by
  refine ⟨_, rfl, ?_⟩
  have r := r10 c v m hl hv hv'
  have e : [slV 1 vecV c, slV 1 i32V v, .int .i64 m].mapM (frz σ 12) = some [slV 1 vecV c, slV 1 i32V v, .int .i64 m] := by
    simp only [List.mapM_cons, List.mapM_nil, frz_slV, frz_int]; rfl
  rw [callE_flat (by decide) e r (flat_tup2 (flat_ownI _) rfl), thaw_tup, thawL_cons, thaw_ownI]
  rfl
end Go.Q.S14
end

section
/- The law of the nearest centroids. -/
set_option linter.unusedSimpArgs false
set_option linter.unusedVariables false
namespace Go.Q.S14
open Go.Q Go.Sort
theorem nr0 {c : Option (List Vc)} {v : Vc} {m : Int} (h : nrE c v m = 0) : 1 ≤ m ∧ okV v = true ∧ cents c = true ∧ dm c = (lst v).length ∧ lst c ≠ [] := by
  unfold nrE at h
  by_cases ha : askE m = 0
  · rw [if_neg (by omega)] at h
    have hm : 1 ≤ m := by unfold askE at ha; split at ha; cases ha; omega
    cases ho : okV v
    · rw [ho] at h; cases h
    · rw [ho, if_pos rfl] at h
      unfold cnE at h
      by_cases ht : trE c = 0
      · rw [if_neg (by omega)] at h
        have hne : lst c ≠ [] := by intro h; unfold trE at ht; rw [if_pos h] at ht; cases ht
        have hc : cents c = true := by
          unfold trE at ht; rw [if_neg hne] at ht
          cases h : cents c
          · rw [h] at ht; cases ht
          · rfl
        by_cases hd : dm c = (lst v).length
        · exact ⟨hm, rfl, hc, hd, hne⟩
        · rw [if_neg hd] at h; cases h
      · rw [if_pos ht] at h; exact absurd h ht
  · rw [if_pos ha] at h; exact absurd h ha
theorem cents_mem {c : Option (List Vc)} (hc : cents c = true) : ∀ x ∈ lst c, okV x = true ∧ (lst x).length = dm c := by
  unfold cents at hc
  simp only [Bool.and_eq_true, decide_eq_true_eq] at hc
  intro v hv
  have := List.all_eq_true.1 hc.2 v hv
  simpa [okC] using this
theorem cents_len {c : Option (List Vc)} (hc : cents c = true) : (lst c).length ≤ 6 := by
  unfold cents at hc; simp only [Bool.and_eq_true, decide_eq_true_eq] at hc; exact hc.1
theorem nr_two {c : Option (List Vc)} {v : Vc} (hc : cents c = true) (ho : okV v = true) (hd : dm c = (lst v).length) : ∀ x ∈ lst c, Two x v :=
  fun x hx => ⟨(cents_mem hc x hx).1, ho, by rw [(cents_mem hc x hx).2, hd]⟩
theorem r3 (x l : Option (List Vc)) (ns : Option (List Int)) (hx : (lst x).length < 4611686018427387904) (hl : (lst l).length < 4611686018427387904) (hns : (lst ns).length < 4611686018427387904) (hxv : ∀ v ∈ lst x, Sm v) (hlv : ∀ v ∈ lst l, Sm v) : res T 3 [slV 1 vecV x, slV 1 vecV l, slV 1 iV ns] = some (.bool true) := by
  refine run_res (run_pure (fn := g3) rfl rfl (by decide) ?_)
  simp only [g3, b3, oO, oN, mV, lD, gO, pP, qQ, cI, aR]
  have c8 := f8 x hx hxv
  obtain ⟨c, hc⟩ : ∃ c, c = cutV x := ⟨_, rfl⟩
  have hcl : (lst c).length ≤ 7 := by rw [hc]; exact cutV_len x
  have hcv : ∀ v ∈ lst c, Sm v := by rw [hc]; exact cutV_sm x
  rw [← hc] at c8
  simp +contextual -implicitDefEqProofs (maxSteps := 2000000) only [↓wP, wQ, wQ1, wQ2, wQ3, wR, boxE, partsOf, ↓reduceIte, Nat.reduceEqDiff, Nat.reduceAdd, Nat.reduceSub, Nat.reduceLeDiff, Nat.reduceLT, Nat.reduceMul, reduceCtorEq, Int.reduceBNe, Int.reduceBEq, Int.reduceLT, Int.reduceLE, Int.reduceGT, f7, c8]
  refine WC_for (lst l).length 0 (fun (j : Nat) env σ n => env 2 = slV 1 iV ns ∧ env 7 = slV 1 vecV c ∧ env 21 = slV 1 vecV l) (by omega) (by decide) (by decide) (fun _ _ => rfl) (fun _ _ _ => rfl) ?_ ?_ _ _ _ rfl rfl ?_
  · intro j env σ n hj h1 h2 ⟨h3, h4, h5⟩
    simp only [vl_tmp] at h2
    have hx : (lst l)[j]? = some (lst l)[j] := List.getElem?_eq_getElem hj
    have f := f9 _ (hlv _ (List.getElem_mem hj))
    generalize (lst l)[j] = y at *
    by_cases h10 : (j : Int) = 10
    · have h10' : ((j : Int) == 10) = true := by simpa using h10
      simp +contextual -implicitDefEqProofs (maxSteps := 2000000) only [↓wP, wQ, wQ1, wQ2, wQ3, wR, boxE, partsOf, ↓reduceIte, Nat.reduceEqDiff, Nat.reduceAdd, Nat.reduceSub, Nat.reduceLeDiff, Nat.reduceLT, Nat.reduceMul, reduceCtorEq, Int.reduceBNe, Int.reduceBEq, Int.reduceLT, Int.reduceLE, Int.reduceGT, h1, h2, h3, h4, h5, hx, vecV_eq, h10']
    · have h10' : ((j : Int) == 10) = false := by simpa using h10
      simp +contextual -implicitDefEqProofs (maxSteps := 2000000) only [↓wP, wQ, wQ1, wQ2, wQ3, wR, boxE, partsOf, ↓reduceIte, Nat.reduceEqDiff, Nat.reduceAdd, Nat.reduceSub, Nat.reduceLeDiff, Nat.reduceLT, Nat.reduceMul, reduceCtorEq, Int.reduceBNe, Int.reduceBEq, Int.reduceLT, Int.reduceLE, Int.reduceGT, h1, h2, h3, h4, h5, hx, vecV_eq, h10']
      refine condC_cut (fun env' σ' n' => n' = n ∧ env' 2 = slV 1 iV ns ∧ env' 7 = slV 1 vecV c ∧ env' 21 = slV 1 vecV l ∧ env' 22 = .int .i64 ((lst l).length : Int) ∧ env' 23 = .int .i64 (j : Int) ∧ env' 9 = slV 1 i32V y ∧ ∃ m, env' 10 = .int .i64 m) ?_ ?_ ?_
      · intro hx
        have hx' : 0 < (lst ns).length := by have := of_decide_eq_true hx; omega
        have hrc := bin_rem .i64 (j : Int) ((lst ns).length : Int) (by omega)
        have hrm : (j : Int).tmod ((lst ns).length : Int) = ((j % (lst ns).length : Nat) : Int) := rfl
        rw [hrm] at hrc
        have hlt : j % (lst ns).length < (lst ns).length := Nat.mod_lt _ hx'
        have xc : (lst ns)[j % (lst ns).length]? = some (lst ns)[j % (lst ns).length] := List.getElem?_eq_getElem hlt
        simp +contextual -implicitDefEqProofs (maxSteps := 2000000) only [↓wP, wQ, wQ1, wQ2, wQ3, wR, boxE, partsOf, ↓reduceIte, Nat.reduceEqDiff, Nat.reduceAdd, Nat.reduceSub, Nat.reduceLeDiff, Nat.reduceLT, Nat.reduceMul, reduceCtorEq, Int.reduceBNe, Int.reduceBEq, Int.reduceLT, Int.reduceLE, Int.reduceGT, h1, h2, h3, h4, h5, hrc, xc, iV_eq]
        exact ⟨_, rfl⟩
      · intro hx
        simp +contextual -implicitDefEqProofs (maxSteps := 2000000) only [↓wP, wQ, wQ1, wQ2, wQ3, wR, boxE, partsOf, ↓reduceIte, Nat.reduceEqDiff, Nat.reduceAdd, Nat.reduceSub, Nat.reduceLeDiff, Nat.reduceLT, Nat.reduceMul, reduceCtorEq, Int.reduceBNe, Int.reduceBEq, Int.reduceLT, Int.reduceLE, Int.reduceGT, h1, h2, h3, h4, h5]
        exact ⟨_, rfl⟩
      · clear h1 h2 h3 h4 h5 hx
        intro env σ' n' ⟨r1, h3, h4, h5, h1, h2, h6, m, h7⟩
        subst r1
        obtain ⟨L, hL, c10⟩ := f10 c (cut y) m hcl hcv (cut_sm y) true σ' n' 0
        have c11 := f11 c (cut y) m (by omega) hcv (cut_sm y)
        have hle : lenE (iVal n' L) = some (.int .i64 (L.length : Int)) := by
          unfold iVal
          split
          · rename_i h; rw [h, lenE_nil]; rfl
          · rw [lenE_ref]
        by_cases he : nrE c (cut y) m = 0
        · obtain ⟨hm1, ho, hce, hd, hne⟩ := nr0 he
          have c12 := f12 c (cut y) m hcl (nr_two hce ho hd) hm1
          rw [if_pos he] at hL
          rw [he] at c10 c11
          rw [← hL] at c12
          have hLl : L.length ≤ 7 := by rw [hL, near_len _ _ _ (by omega)]; omega
          simp +contextual -implicitDefEqProofs (maxSteps := 2000000) only [↓wP, wQ, wQ1, wQ2, wQ3, wR, boxE, partsOf, ↓reduceIte, Nat.reduceEqDiff, Nat.reduceAdd, Nat.reduceSub, Nat.reduceLeDiff, Nat.reduceLT, Nat.reduceMul, reduceCtorEq, Int.reduceBNe, Int.reduceBEq, Int.reduceLT, Int.reduceLE, Int.reduceGT, h1, h2, h3, h4, h5, h6, h7, f, c10, c11, c12, hle, lst_oL, lenE_slV, bne_self_eq_false]
          have s1 : L ≠ [] → iSto σ' n' L n' = some (.row 1 (L.map iV)) := fun h => by unfold iSto; rw [if_neg h]; simp [upd]
          have i1 : L ≠ [] → iVal n' L = .ref n' 0 L.length 1 := fun h => by unfold iVal; rw [if_neg h]
          have nn : n' ≤ iN n' L := by unfold iN; split <;> omega
          have nl : L ≠ [] → n' < iN n' L := fun h => by unfold iN; rw [if_neg h]; omega
          generalize iSto σ' n' L = σ2 at *
          generalize iVal n' L = gv at *
          generalize iN n' L = n2 at *
          refine WC_for L.length 0 (fun (i : Nat) env σ n => σ = σ2 ∧ n = n2 ∧ env 2 = slV 1 iV ns ∧ env 7 = slV 1 vecV c ∧ env 21 = slV 1 vecV l ∧ env 22 = .int .i64 ((lst l).length : Int) ∧ env 23 = .int .i64 (j : Int) ∧ env 12 = gv ∧ env 15 = slV 1 iV (oL L)) (by omega) (by decide) (by decide) (fun _ _ => rfl) (fun _ _ _ => rfl) ?_ ?_ _ _ _ rfl rfl ?_
          · clear h1 h2 h3 h4 h5 h6 h7
            intro i env σ n hi e1 e2 ⟨r1, r2, h3, h4, h5, h1, h2, h6, h7⟩
            subst r1 r2
            simp only [vl_tmp] at e2
            have hne' : L ≠ [] := by intro h; rw [h] at hi; simp at hi
            have s1' := s1 hne'
            have i1' := i1 hne'
            have hx1 : (L.map iV)[i]? = some (.int .i64 L[i]) := by simp [iV, hi]
            have hx2 : (lst (oL L))[i]? = some L[i] := by rw [lst_oL]; simp [hi]
            subst i1'
            have nl' := nl hne'
            have y0 : ∀ hid, hide σ n n hid n' = σ n' := fun hid => hide_low _ _ _ _ (by omega) (Nat.le_refl _)
            simp +contextual -implicitDefEqProofs (maxSteps := 2000000) only [↓wP, wQ, wQ1, wQ2, wQ3, wR, boxE, partsOf, ↓reduceIte, Nat.reduceEqDiff, Nat.reduceAdd, Nat.reduceSub, Nat.reduceLeDiff, Nat.reduceLT, Nat.reduceMul, reduceCtorEq, Int.reduceBNe, Int.reduceBEq, Int.reduceLT, Int.reduceLE, Int.reduceGT, e1, e2, h1, h2, h3, h4, h5, h6, h7, s1', hx1, hx2, iV_eq, bne_self_eq_false, hi, y0]
          · clear h1 h2 h3 h4 h5 h6 h7
            intro env σ n ⟨r1, r2, h3, h4, h5, h1, h2, h6, h7⟩ e1 e2
            simp +contextual -implicitDefEqProofs (maxSteps := 2000000) only [↓wP, wQ, wQ1, wQ2, wQ3, wR, boxE, partsOf, ↓reduceIte, Nat.reduceEqDiff, Nat.reduceAdd, Nat.reduceSub, Nat.reduceLeDiff, Nat.reduceLT, Nat.reduceMul, reduceCtorEq, Int.reduceBNe, Int.reduceBEq, Int.reduceLT, Int.reduceLE, Int.reduceGT, h1, h2, h3, h4, h5]
          · simp +contextual -implicitDefEqProofs (maxSteps := 2000000) only [↓wP, wQ, wQ1, wQ2, wQ3, wR, boxE, partsOf, ↓reduceIte, Nat.reduceEqDiff, Nat.reduceAdd, Nat.reduceSub, Nat.reduceLeDiff, Nat.reduceLT, Nat.reduceMul, reduceCtorEq, Int.reduceBNe, Int.reduceBEq, Int.reduceLT, Int.reduceLE, Int.reduceGT, h1, h2, h3, h4, h5]
        · have hd : (nrE c (cut y) m != 0) = true := by simpa using he
          rw [if_neg he] at hL
          subst hL
          have z0 : (((0 : Nat) : Int) != 0) = false := rfl
          simp only [List.length_nil] at hle
          simp +contextual -implicitDefEqProofs (maxSteps := 2000000) only [↓wP, wQ, wQ1, wQ2, wQ3, wR, boxE, partsOf, ↓reduceIte, Nat.reduceEqDiff, Nat.reduceAdd, Nat.reduceSub, Nat.reduceLeDiff, Nat.reduceLT, Nat.reduceMul, reduceCtorEq, Int.reduceBNe, Int.reduceBEq, Int.reduceLT, Int.reduceLE, Int.reduceGT, h1, h2, h3, h4, h5, h6, h7, f, c10, c11, hle, hd, bne_self_eq_false, z0]
  · intro env σ n ⟨h3, h4, h5⟩ h1 h2
    simp +contextual -implicitDefEqProofs (maxSteps := 2000000) only [↓wP, wQ, wQ1, wQ2, wQ3, wR, boxE, partsOf, ↓reduceIte, Nat.reduceEqDiff, Nat.reduceAdd, Nat.reduceSub, Nat.reduceLeDiff, Nat.reduceLT, Nat.reduceMul, reduceCtorEq, Int.reduceBNe, Int.reduceBEq, Int.reduceLT, Int.reduceLE, Int.reduceGT]
  · simp +contextual -implicitDefEqProofs (maxSteps := 2000000) only [↓wP, wQ, wQ1, wQ2, wQ3, wR, boxE, partsOf, ↓reduceIte, Nat.reduceEqDiff, Nat.reduceAdd, Nat.reduceSub, Nat.reduceLeDiff, Nat.reduceLT, Nat.reduceMul, reduceCtorEq, Int.reduceBNe, Int.reduceBEq, Int.reduceLT, Int.reduceLE, Int.reduceGT]
end Go.Q.S14
end

section
/- Rows; whether they may be; queries. -/
set_option linter.unusedSimpArgs false
set_option linter.unusedVariables false
namespace Go.Q.S14
open Go.Q Go.Sort
def qE (v : Option (List Int)) (k : Int) : Int := if k < 1 then 2 else if 16 < k then 2 else if okV v then 0 else 150
theorem r38 (v : Option (List Int)) (k : Int) (hv : (lst v).length < 9223372036854775808) : res T 38 [.agg [slV 1 i32V v, .int .i64 k]] = some (.int .i64 (qE v k)) := by
  refine run_res (run_pure (fn := g38) rfl rfl (by decide) ?_)
  simp only [g38, b38, oO, oN, mV, lD, gO, pP, qQ, cI, aR]
  have f := f22 v hv
  by_cases h1 : k < 1
  · simp +contextual -implicitDefEqProofs (maxSteps := 2000000) only [↓wP, wQ, wQ1, wQ2, wQ3, wR, boxE, partsOf, ↓reduceIte, Nat.reduceEqDiff, Nat.reduceAdd, Nat.reduceSub, Nat.reduceLeDiff, Nat.reduceLT, Nat.reduceMul, reduceCtorEq, Int.reduceBNe, Int.reduceBEq, Int.reduceLT, Int.reduceLE, Int.reduceGT, h1, qE]
  · by_cases h2 : 16 < k
    · simp +contextual -implicitDefEqProofs (maxSteps := 2000000) only [↓wP, wQ, wQ1, wQ2, wQ3, wR, boxE, partsOf, ↓reduceIte, Nat.reduceEqDiff, Nat.reduceAdd, Nat.reduceSub, Nat.reduceLeDiff, Nat.reduceLT, Nat.reduceMul, reduceCtorEq, Int.reduceBNe, Int.reduceBEq, Int.reduceLT, Int.reduceLE, Int.reduceGT, h1, h2, qE]
    · cases ho : okV v
      · rw [ho] at f
        simp +contextual -implicitDefEqProofs (maxSteps := 2000000) only [↓wP, wQ, wQ1, wQ2, wQ3, wR, boxE, partsOf, ↓reduceIte, Nat.reduceEqDiff, Nat.reduceAdd, Nat.reduceSub, Nat.reduceLeDiff, Nat.reduceLT, Nat.reduceMul, reduceCtorEq, Int.reduceBNe, Int.reduceBEq, Int.reduceLT, Int.reduceLE, Int.reduceGT, h1, h2, qE, f, ho]
      · rw [ho] at f
        simp +contextual -implicitDefEqProofs (maxSteps := 2000000) only [↓wP, wQ, wQ1, wQ2, wQ3, wR, boxE, partsOf, ↓reduceIte, Nat.reduceEqDiff, Nat.reduceAdd, Nat.reduceSub, Nat.reduceLeDiff, Nat.reduceLT, Nat.reduceMul, reduceCtorEq, Int.reduceBNe, Int.reduceBEq, Int.reduceLT, Int.reduceLE, Int.reduceGT, h1, h2, qE, f, ho]
theorem f38 (v : Option (List Int)) (k : Int) (hv : (lst v).length < 9223372036854775808) (fs : Bool) (σ : Sto) (n lk : Nat) : callE T fs 38 [.agg [slV 1 i32V v, .int .i64 k]] σ n lk = some (.int .i64 (qE v k), σ, n) :=
  callE_tr (by decide) (r38 v k hv) (by simp [Tr, Tr_slV]) rfl fs σ n lk
structure Rw where
  id : Int
  v : Option (List Int)
def rwV (r : Rw) : V := .agg [.int .u64 r.id, slV 1 i32V r.v]
theorem rwV_eq (r : Rw) : rwV r = .agg [.int .u64 r.id, slV 1 i32V r.v] := rfl
theorem qE_ok {q : Option (List Int)} {k : Int} (h : qE q k = 0) : okV q = true ∧ 1 ≤ k ∧ k ≤ 16 := by
  unfold qE at h
  split at h
  · cases h
  · split at h
    · cases h
    · split at h
      · rename_i h1 h2 h3; exact ⟨h3, by omega, by omega⟩
      · cases h
theorem r32 (id : Int) (v : Option (List Int)) (hv : (lst v).length < 9223372036854775808) : res T 32 [.agg [.int .u64 id, slV 1 i32V v]] = some (.int .i64 (if okV v then 0 else 170)) := by
  refine run_res (run_pure (fn := g32) rfl rfl (by decide) ?_)
  simp only [g32, b32, oO, oN, mV, lD, gO, pP, qQ, cI, aR]
  have f := f22 v hv
  cases ho : okV v
  · rw [ho] at f
    simp +contextual -implicitDefEqProofs (maxSteps := 2000000) only [↓wP, wQ, wQ1, wQ2, wQ3, wR, boxE, partsOf, ↓reduceIte, Nat.reduceEqDiff, Nat.reduceAdd, Nat.reduceSub, Nat.reduceLeDiff, Nat.reduceLT, Nat.reduceMul, reduceCtorEq, Int.reduceBNe, Int.reduceBEq, Int.reduceLT, Int.reduceLE, Int.reduceGT, f, ho]
  · rw [ho] at f
    simp +contextual -implicitDefEqProofs (maxSteps := 2000000) only [↓wP, wQ, wQ1, wQ2, wQ3, wR, boxE, partsOf, ↓reduceIte, Nat.reduceEqDiff, Nat.reduceAdd, Nat.reduceSub, Nat.reduceLeDiff, Nat.reduceLT, Nat.reduceMul, reduceCtorEq, Int.reduceBNe, Int.reduceBEq, Int.reduceLT, Int.reduceLE, Int.reduceGT, f, ho]
theorem f32 (id : Int) (v : Option (List Int)) (hv : (lst v).length < 9223372036854775808) (fs : Bool) (σ : Sto) (n lk : Nat) : callE T fs 32 [.agg [.int .u64 id, slV 1 i32V v]] σ n lk = some (.int .i64 (if okV v then 0 else 170), σ, n) :=
  callE_tr (by decide) (r32 id v hv) (by simp [Tr, Tr_slV]) rfl fs σ n lk
def okR (r : Rw) : Bool := okV r.v
theorem r31 (id : Int) (v : Option (List Int)) (hv : (lst v).length < 9223372036854775808) : res T 31 [.agg [.int .u64 id, slV 1 i32V v]] = some (.bool (!okV v)) := by
  refine run_res (run_pure (fn := g31) rfl rfl (by decide) ?_)
  simp only [g31, b31, oO, oN, mV, lD, gO, pP, qQ, cI, aR]
  have f := f32 id v hv
  cases ho : okV v
  · rw [ho] at f
    simp +contextual -implicitDefEqProofs (maxSteps := 2000000) only [↓wP, wQ, wQ1, wQ2, wQ3, wR, boxE, partsOf, ↓reduceIte, Nat.reduceEqDiff, Nat.reduceAdd, Nat.reduceSub, Nat.reduceLeDiff, Nat.reduceLT, Nat.reduceMul, reduceCtorEq, Int.reduceBNe, Int.reduceBEq, Int.reduceLT, Int.reduceLE, Int.reduceGT, f, ho]
  · rw [ho] at f
    simp +contextual -implicitDefEqProofs (maxSteps := 2000000) only [↓wP, wQ, wQ1, wQ2, wQ3, wR, boxE, partsOf, ↓reduceIte, Nat.reduceEqDiff, Nat.reduceAdd, Nat.reduceSub, Nat.reduceLeDiff, Nat.reduceLT, Nat.reduceMul, reduceCtorEq, Int.reduceBNe, Int.reduceBEq, Int.reduceLT, Int.reduceLE, Int.reduceGT, f, ho]
theorem f31 (id : Int) (v : Option (List Int)) (hv : (lst v).length < 9223372036854775808) (fs : Bool) (σ : Sto) (n lk : Nat) : callE T fs 31 [.agg [.int .u64 id, slV 1 i32V v]] σ n lk = some (.bool (!okV v), σ, n) :=
  callE_tr (by decide) (r31 id v hv) (by simp [Tr, Tr_slV]) rfl fs σ n lk
theorem r33 (id : Int) (v : Option (List Int)) (d : Int) : res T 33 [.agg [.int .u64 id, slV 1 i32V v], .box [.int .i64 d]] = some (.bool (((lst v).length : Int) != d)) := by
  refine run_res (run_pure (fn := g33) rfl rfl (by decide) ?_)
  simp only [g33, b33, oO, oN, mV, lD, gO, pP, qQ, cI, aR]
  simp +contextual -implicitDefEqProofs (maxSteps := 2000000) only [↓wP, wQ, wQ1, wQ2, wQ3, wR, boxE, partsOf, ↓reduceIte, Nat.reduceEqDiff, Nat.reduceAdd, Nat.reduceSub, Nat.reduceLeDiff, Nat.reduceLT, Nat.reduceMul, reduceCtorEq, Int.reduceBNe, Int.reduceBEq, Int.reduceLT, Int.reduceLE, Int.reduceGT]
theorem f33 (id : Int) (v : Option (List Int)) (d : Int) (fs : Bool) (σ : Sto) (n lk : Nat) : callE T fs 33 [.agg [.int .u64 id, slV 1 i32V v], .box [.int .i64 d]] σ n lk = some (.bool (((lst v).length : Int) != d), σ, n) :=
  callE_tr (by decide) (r33 id v d) (by simp [Tr, Tr_slV]) rfl fs σ n lk
theorem r50g (o : Option (List Rw)) (F : Nat) (caps : List V) (p : Rw → Bool) (hl : (lst o).length < 9223372036854775808) (hp : ∀ x ∈ lst o, ∀ fs σ n lk, callE T fs F (.agg [.int .u64 x.id, slV 1 i32V x.v] :: caps) σ n lk = some (.bool (p x), σ, n)) :
    res T 50 [slV 2 rwV o, .fn F caps] = some (.int .i64 (idxF p (lst o))) := by
  refine run_res (run_pure (fn := g50) rfl rfl (by decide) ?_)
  simp only [g50, b50, oO, oN, mV, lD, gO, pP, qQ, cI, aR]
  simp +contextual -implicitDefEqProofs (maxSteps := 2000000) only [↓wP, wQ, wQ1, wQ2, wQ3, wR, boxE, partsOf, ↓reduceIte, Nat.reduceEqDiff, Nat.reduceAdd, Nat.reduceSub, Nat.reduceLeDiff, Nat.reduceLT, Nat.reduceMul, reduceCtorEq, Int.reduceBNe, Int.reduceBEq, Int.reduceLT, Int.reduceLE, Int.reduceGT]
  refine WC_for (lst o).length 0 (fun (j : Nat) env _ _ => env 0 = slV 2 rwV o ∧ env 1 = .fn F caps ∧ (lst o).findIdx? p = (((lst o).drop j).findIdx? p).map (· + j)) (by omega) (by decide) (by decide) (fun _ _ => rfl) (fun _ _ _ => rfl) ?_ ?_ _ _ _ rfl rfl ?_
  · intro j env σ n hj h1 h2 ⟨h3, h4, h5⟩
    simp only [vl_tmp] at h2
    have hx : (lst o)[j]? = some (lst o)[j] := List.getElem?_eq_getElem hj
    have hp' := hp (lst o)[j] (List.getElem_mem hj)
    simp +contextual -implicitDefEqProofs (maxSteps := 2000000) only [↓wP, wQ, wQ1, wQ2, wQ3, wR, boxE, partsOf, ↓reduceIte, Nat.reduceEqDiff, Nat.reduceAdd, Nat.reduceSub, Nat.reduceLeDiff, Nat.reduceLT, Nat.reduceMul, reduceCtorEq, Int.reduceBNe, Int.reduceBEq, Int.reduceLT, Int.reduceLE, Int.reduceGT, h1, h2, h3, h4, hx, rwV_eq, hp']
    rw [List.drop_eq_getElem_cons hj, List.findIdx?_cons] at h5
    refine condC_split (fun hb => ?_) (fun hb => ?_)
    · simp +contextual -implicitDefEqProofs (maxSteps := 2000000) only [↓wP, wQ, wQ1, wQ2, wQ3, wR, boxE, partsOf, ↓reduceIte, Nat.reduceEqDiff, Nat.reduceAdd, Nat.reduceSub, Nat.reduceLeDiff, Nat.reduceLT, Nat.reduceMul, reduceCtorEq, Int.reduceBNe, Int.reduceBEq, Int.reduceLT, Int.reduceLE, Int.reduceGT]
      simp [idxF, h5, hb]
    · simp +contextual -implicitDefEqProofs (maxSteps := 2000000) only [↓wP, wQ, wQ1, wQ2, wQ3, wR, boxE, partsOf, ↓reduceIte, Nat.reduceEqDiff, Nat.reduceAdd, Nat.reduceSub, Nat.reduceLeDiff, Nat.reduceLT, Nat.reduceMul, reduceCtorEq, Int.reduceBNe, Int.reduceBEq, Int.reduceLT, Int.reduceLE, Int.reduceGT, h1, h2, h3, h4]
      rw [h5, hb]
      simp only [Bool.false_eq_true, if_false, Option.map_map, Function.comp_def]
      congr 1; funext i; omega
  · intro env σ n ⟨h3, h4, h5⟩ h1 h2
    simp +contextual -implicitDefEqProofs (maxSteps := 2000000) only [↓wP, wQ, wQ1, wQ2, wQ3, wR, boxE, partsOf, ↓reduceIte, Nat.reduceEqDiff, Nat.reduceAdd, Nat.reduceSub, Nat.reduceLeDiff, Nat.reduceLT, Nat.reduceMul, reduceCtorEq, Int.reduceBNe, Int.reduceBEq, Int.reduceLT, Int.reduceLE, Int.reduceGT]
    simp [idxF, h5]
  · exact ⟨rfl, rfl, by simp⟩
theorem r30g (o : Option (List Rw)) (F : Nat) (caps : List V) (p : Rw → Bool) (hl : (lst o).length < 9223372036854775808) (hc : caps.all (Tr 11) = true) (hp : ∀ x ∈ lst o, ∀ fs σ n lk, callE T fs F (.agg [.int .u64 x.id, slV 1 i32V x.v] :: caps) σ n lk = some (.bool (p x), σ, n)) :
    res T 30 [slV 2 rwV o, .fn F caps] = some (.bool ((lst o).any p)) := by
  refine run_res (run_pure (fn := g30) rfl rfl (by decide) ?_)
  simp only [g30, b30, oO, oN, mV, lD, gO, pP, qQ, cI, aR]
  have h := callE_tr (by decide) (r50g o F caps p hl hp) (by simp [Tr, Tr_slV]; exact fun x hx => List.all_eq_true.1 hc x hx) rfl
  simp +contextual -implicitDefEqProofs (maxSteps := 2000000) only [↓wP, wQ, wQ1, wQ2, wQ3, wR, boxE, partsOf, ↓reduceIte, Nat.reduceEqDiff, Nat.reduceAdd, Nat.reduceSub, Nat.reduceLeDiff, Nat.reduceLT, Nat.reduceMul, reduceCtorEq, Int.reduceBNe, Int.reduceBEq, Int.reduceLT, Int.reduceLE, Int.reduceGT, h, idxF_any]
def chkE (q : Vc) (k n : Int) : Int := if k < 1 then 2 else if 16 < k then 2 else if askE n ≠ 0 then askE n else if okV q then 0 else 150
theorem r29 (q : Vc) (k t m : Int) (hq : Sm q) : res T 29 [.agg [slV 1 i32V q, .int .i64 k, .int .u64 t, .int .i64 m]] = some (.int .i64 (chkE q k m)) := by
  refine run_res (run_pure (fn := g29) rfl rfl (by decide) ?_)
  simp only [g29, b29, oO, oN, mV, lD, gO, pP, qQ, cI, aR]
  have h1 := f38 q k hq
  have h2 := f21 m
  unfold chkE
  by_cases k1 : k < 1
  · simp +contextual -implicitDefEqProofs (maxSteps := 2000000) only [↓wP, wQ, wQ1, wQ2, wQ3, wR, boxE, partsOf, ↓reduceIte, Nat.reduceEqDiff, Nat.reduceAdd, Nat.reduceSub, Nat.reduceLeDiff, Nat.reduceLT, Nat.reduceMul, reduceCtorEq, Int.reduceBNe, Int.reduceBEq, Int.reduceLT, Int.reduceLE, Int.reduceGT, k1]
  · by_cases k2 : 16 < k
    · simp +contextual -implicitDefEqProofs (maxSteps := 2000000) only [↓wP, wQ, wQ1, wQ2, wQ3, wR, boxE, partsOf, ↓reduceIte, Nat.reduceEqDiff, Nat.reduceAdd, Nat.reduceSub, Nat.reduceLeDiff, Nat.reduceLT, Nat.reduceMul, reduceCtorEq, Int.reduceBNe, Int.reduceBEq, Int.reduceLT, Int.reduceLE, Int.reduceGT, k1, k2]
    · by_cases ha : askE m = 0
      · have e : qE q k = if okV q then 0 else 150 := by unfold qE; rw [if_neg k1, if_neg k2]
        rw [e] at h1
        rw [ha] at h2
        rw [if_neg (show ¬ askE m ≠ 0 by omega)]
        simp +contextual -implicitDefEqProofs (maxSteps := 2000000) only [↓wP, wQ, wQ1, wQ2, wQ3, wR, boxE, partsOf, ↓reduceIte, Nat.reduceEqDiff, Nat.reduceAdd, Nat.reduceSub, Nat.reduceLeDiff, Nat.reduceLT, Nat.reduceMul, reduceCtorEq, Int.reduceBNe, Int.reduceBEq, Int.reduceLT, Int.reduceLE, Int.reduceGT, k1, k2, h1, h2, ha]
      · have hb : (askE m != 0) = true := by simpa using ha
        rw [if_pos ha]
        simp +contextual -implicitDefEqProofs (maxSteps := 2000000) only [↓wP, wQ, wQ1, wQ2, wQ3, wR, boxE, partsOf, ↓reduceIte, Nat.reduceEqDiff, Nat.reduceAdd, Nat.reduceSub, Nat.reduceLeDiff, Nat.reduceLT, Nat.reduceMul, reduceCtorEq, Int.reduceBNe, Int.reduceBEq, Int.reduceLT, Int.reduceLE, Int.reduceGT, k1, k2, h2, ha, hb]
theorem f29 (q : Vc) (k t m : Int) (hq : Sm q) (fs : Bool) (σ : Sto) (n lk : Nat) : callE T fs 29 [.agg [slV 1 i32V q, .int .i64 k, .int .u64 t, .int .i64 m]] σ n lk = some (.int .i64 (chkE q k m), σ, n) :=
  callE_tr (by decide) (r29 q k t m hq) (by simp [Tr, Tr_slV]) rfl fs σ n lk
end Go.Q.S14
end

section
/- Rows and probes, as trees. -/
set_option linter.unusedSimpArgs false
set_option linter.unusedVariables false
set_option maxRecDepth 20000
namespace Go.Q.S14
open Go.Q Go.Proofs
def eRow : Enc Try.prog 54 Rw := Enc.map
  (Enc.struct (EncF.cons (off := 0) (sz := 1) eU64 rfl (by kernel_rfl) (EncF.cons (sz := 1) eVec rfl (by kernel_rfl) EncF.nil)) Try.underlying54 (by kernel_rfl))
  (fun x => ⟨x.1, x.2.1⟩) rwV (fun r => Sm r.v) (fun a _ => by obtain ⟨a, b, u⟩ := a; cases b <;> rfl) (fun a h => by have := okVec h.2.1; unfold Sm; dsimp only at this ⊢; omega)
def eRows : Enc Try.prog 34 (Option (List Rw)) := Enc.slice eRow Try.underlying34 2 (by kernel_rfl) (by decide) 32 (by kernel_rfl)
theorem okRows {o : Option (List Rw)} (h : eRows.ok o) : (lst o).length < 4611686018427387904 ∧ ∀ r ∈ lst o, Sm r.v := by
  cases o with
  | none => exact ⟨by simp [lst], by simp [lst]⟩
  | some l =>
    obtain ⟨h1, h2, h3⟩ := h l rfl
    rw [reach_eq] at h2
    exact ⟨by rw [lst_some]; omega, fun r hr => h3 r hr⟩
def eQry : Enc Try.prog 36 (Option (List Int) × Int) := Enc.map
  (Enc.struct (EncF.cons (off := 0) (sz := 1) eVec rfl (by kernel_rfl) (EncF.cons (sz := 1) eInt rfl (by kernel_rfl) EncF.nil)) Try.underlying36 (by kernel_rfl))
  (fun x => (x.1, x.2.1)) (fun x => .agg [slV 1 i32V x.1, .int .i64 x.2]) (fun x => Sm x.1) (fun a _ => by obtain ⟨a, b, u⟩ := a; cases a <;> rfl) (fun a h => by have := okVec h.1; unfold Sm; dsimp only at this ⊢; omega)
def ePrb : Enc Try.prog 39 (Option (List Int) × Int × Int × Int) := Enc.map
  (Enc.struct (EncF.cons (off := 0) (sz := 2) eQry rfl (by kernel_rfl) (EncF.cons (sz := 1) eU64 rfl (by kernel_rfl) (EncF.cons (sz := 1) eInt rfl (by kernel_rfl) EncF.nil))) Try.underlying39 (by kernel_rfl))
  (fun x => (x.1.1, x.1.2, x.2.1, x.2.2.1)) (fun x => .agg [slV 1 i32V x.1, .int .i64 x.2.1, .int .u64 x.2.2.1, .int .i64 x.2.2.2]) (fun x => Sm x.1) (fun a _ => by obtain ⟨⟨a, b⟩, t, n, u⟩ := a; cases a <;> rfl) (fun a h => h.1)
end Go.Q.S14
end

section
/- The nearest vector. -/
set_option linter.unusedSimpArgs false
set_option linter.unusedVariables false
namespace Go.Q.S14
open Go.Q Go.Sort
theorem f52g (v : Vc) (o : Option (List Vc)) (hne : lst o ≠ []) (fs : Bool) (σ : Sto) (n lk : Nat) : callE T fs 52 [slV 1 i32V v, .box [slV 1 vecV o]] σ n lk = some (.bool (((lst v).length : Int) != ((dm o : Nat) : Int)), σ, n) := by
  refine callE_tr (by decide) ?_ (by simp [Tr, Tr_slV]) rfl fs σ n lk
  refine run_res (run_pure (fn := g52) rfl rfl (by decide) ?_)
  simp only [g52, b52, oO, oN, mV, lD, gO, pP, qQ, cI, aR]
  obtain ⟨v0, h0, hd⟩ := dm_get hne
  rw [hd]
  simp +contextual -implicitDefEqProofs (maxSteps := 2000000) only [↓wP, wQ, wQ1, wQ2, wQ3, wR, boxE, partsOf, ↓reduceIte, Nat.reduceEqDiff, Nat.reduceAdd, Nat.reduceSub, Nat.reduceLeDiff, Nat.reduceLT, Nat.reduceMul, reduceCtorEq, Int.reduceBNe, Int.reduceBEq, Int.reduceLT, Int.reduceLE, Int.reduceGT, h0, vecV_eq]
theorem r53h (c : Option (List Vc)) (hl : (lst c).length < 9223372036854775808) : res T 53 [slV 1 vecV c, .fn 52 [.box [slV 1 vecV c]]] = some (.bool ((lst c).any fun v => ((lst v).length : Int) != ((dm c : Nat) : Int))) := by
  refine run_res (run_pure (fn := g53) rfl rfl (by decide) ?_)
  simp only [g53, b53, oO, oN, mV, lD, gO, pP, qQ, cI, aR]
  have h := callE_tr (by decide) (r65g c 52 [.box [slV 1 vecV c]] (fun v => ((lst v).length : Int) != ((dm c : Nat) : Int)) hl (fun x hx fs σ n lk => f52g x c (fun h => by rw [h] at hx; simp at hx) fs σ n lk)) (by simp [Tr, Tr_slV]) rfl
  simp +contextual -implicitDefEqProofs (maxSteps := 2000000) only [↓wP, wQ, wQ1, wQ2, wQ3, wR, boxE, partsOf, ↓reduceIte, Nat.reduceEqDiff, Nat.reduceAdd, Nat.reduceSub, Nat.reduceLeDiff, Nat.reduceLT, Nat.reduceMul, reduceCtorEq, Int.reduceBNe, Int.reduceBEq, Int.reduceLT, Int.reduceLE, Int.reduceGT, h, idxF_any]
def allE (o : Option (List Vc)) : Int := if (lst o).all okV then (if (lst o).any (fun v => ((lst v).length : Int) != ((dm o : Nat) : Int)) then 151 else 0) else 150
theorem r36g (c : Option (List Vc)) (hl : (lst c).length < 9223372036854775808) (hv : ∀ v ∈ lst c, Sm v) : res T 36 [slV 1 vecV c] = some (.int .i64 (allE c)) := by
  refine run_res (run_pure (fn := g36) rfl rfl (by decide) ?_)
  simp only [g36, b36, oO, oN, mV, lD, gO, pP, qQ, cI, aR]
  simp +contextual -implicitDefEqProofs (maxSteps := 2000000) only [↓wP, wQ, wQ1, wQ2, wQ3, wR, boxE, partsOf, ↓reduceIte, Nat.reduceEqDiff, Nat.reduceAdd, Nat.reduceSub, Nat.reduceLeDiff, Nat.reduceLT, Nat.reduceMul, reduceCtorEq, Int.reduceBNe, Int.reduceBEq, Int.reduceLT, Int.reduceLE, Int.reduceGT]
  refine WC_for (lst c).length 0 (fun (j : Nat) env σ n => 1 ≤ n ∧ σ 0 = some (.row 1 [slV 1 vecV c]) ∧ env 1 = .ptr 0 1 0 0 ∧ env 7 = slV 1 vecV c ∧ (lst c).all okV = ((lst c).drop j).all okV) (by omega) (by decide) (by decide) (fun _ _ => rfl) (fun _ _ _ => rfl) ?_ ?_ _ _ _ rfl rfl ?_
  · intro j env σ n hj g1 g2 ⟨g3, g4, g5, g6, g7⟩
    simp only [vl_tmp] at g2
    have hx : (lst c)[j]? = some (lst c)[j] := List.getElem?_eq_getElem hj
    have f := f22 (lst c)[j] (hv _ (List.getElem_mem hj))
    rw [List.drop_eq_getElem_cons hj, List.all_cons] at g7
    generalize (lst c)[j] = x at *
    cases ho : okV x
    · rw [ho] at f
      rw [ho, Bool.false_and] at g7
      have e : allE c = 150 := by unfold allE; rw [g7]; rfl
      simp +contextual -implicitDefEqProofs (maxSteps := 2000000) only [↓wP, wQ, wQ1, wQ2, wQ3, wR, boxE, partsOf, ↓reduceIte, Nat.reduceEqDiff, Nat.reduceAdd, Nat.reduceSub, Nat.reduceLeDiff, Nat.reduceLT, Nat.reduceMul, reduceCtorEq, Int.reduceBNe, Int.reduceBEq, Int.reduceLT, Int.reduceLE, Int.reduceGT, g1, g2, g3, g4, g5, g6, hx, vecV_eq, f, e]
    · rw [ho] at f
      rw [ho, Bool.true_and] at g7
      simp +contextual -implicitDefEqProofs (maxSteps := 2000000) only [↓wP, wQ, wQ1, wQ2, wQ3, wR, boxE, partsOf, ↓reduceIte, Nat.reduceEqDiff, Nat.reduceAdd, Nat.reduceSub, Nat.reduceLeDiff, Nat.reduceLT, Nat.reduceMul, reduceCtorEq, Int.reduceBNe, Int.reduceBEq, Int.reduceLT, Int.reduceLE, Int.reduceGT, g1, g2, g3, g4, g5, g6, hx, vecV_eq, f]
      exact g7
  · intro env σ n ⟨g3, g4, g5, g6, g7⟩ g1 g2
    rw [List.drop_length, List.all_nil] at g7
    have hc : frz σ 12 (.fn 52 [.ptr 0 1 0 0]) = some (.fn 52 [.box [slV 1 vecV c]]) := by
      simp +contextual -implicitDefEqProofs (maxSteps := 2000000) only [↓wP, wQ, wQ1, wQ2, wQ3, wR, boxE, partsOf, ↓reduceIte, Nat.reduceEqDiff, Nat.reduceAdd, Nat.reduceSub, Nat.reduceLeDiff, Nat.reduceLT, Nat.reduceMul, reduceCtorEq, Int.reduceBNe, Int.reduceBEq, Int.reduceLT, Int.reduceLE, Int.reduceGT, g4, frz_fn, frz_ptr, frz_slV, cl_slV]
    have e : [slV 1 vecV c, V.fn 52 [.ptr 0 1 0 0]].mapM (frz σ 12) = some [slV 1 vecV c, .fn 52 [.box [slV 1 vecV c]]] := by
      simp only [List.mapM_cons, List.mapM_nil, frz_slV, hc]; rfl
    have f53' := fun n lk => callE_flat (fs := true) (n := n) (lk := lk) (by decide) e (r53h c hl) rfl
    simp only [thaw] at f53'
    unfold allE
    rw [g7]
    cases ha : (lst c).any fun v => ((lst v).length : Int) != ((dm c : Nat) : Int) <;> rw [ha] at f53'
    all_goals simp +contextual -implicitDefEqProofs (maxSteps := 2000000) only [↓wP, wQ, wQ1, wQ2, wQ3, wR, boxE, partsOf, ↓reduceIte, Nat.reduceEqDiff, Nat.reduceAdd, Nat.reduceSub, Nat.reduceLeDiff, Nat.reduceLT, Nat.reduceMul, reduceCtorEq, Int.reduceBNe, Int.reduceBEq, Int.reduceLT, Int.reduceLE, Int.reduceGT, g4, g5, f53']
  · simp +contextual -implicitDefEqProofs (maxSteps := 2000000) only [↓wP, wQ, wQ1, wQ2, wQ3, wR, boxE, partsOf, ↓reduceIte, Nat.reduceEqDiff, Nat.reduceAdd, Nat.reduceSub, Nat.reduceLeDiff, Nat.reduceLT, Nat.reduceMul, reduceCtorEq, Int.reduceBNe, Int.reduceBEq, Int.reduceLT, Int.reduceLE, Int.reduceGT]
def nb (v : Vc) (c : List Vc) (j : Nat) : Nat := (bst [] (dis v c) j).toNat
theorem nb_step (v : Vc) (c : List Vc) (j : Nat) : nb v c (j + 1) = if ahead ⟨j, dis v c j⟩ ⟨nb v c j, dis v c (nb v c j)⟩ then j else nb v c j := by
  unfold nb
  rw [show bst [] (dis v c) (j + 1) = if (j : Int) ∈ ([] : List Int) then bst [] (dis v c) j else if 0 ≤ bst [] (dis v c) j ∧ dis v c (bst [] (dis v c) j).toNat ≤ dis v c j then bst [] (dis v c) j else j from rfl, if_neg (by simp)]
  rcases bst_spec [] (dis v c) j with ⟨h1, h2⟩ | ⟨b, h1, h2, -, -⟩
  · have : j = 0 := by
      rcases Nat.eq_zero_or_pos j with h | h
      · exact h
      · have := h2 0 h; simp at this
    subst this
    rw [h1, if_neg (by omega)]
    show (0 : Int).toNat = _
    rw [show ((-1 : Int).toNat) = 0 by rfl]
    split <;> rfl
  · rw [h1]
    unfold ahead
    simp only [Int.toNat_natCast]
    by_cases hd : dis v c b ≤ dis v c j
    · rw [if_pos ⟨by omega, hd⟩, if_neg (by simp; omega)]; rfl
    · rw [if_neg (by rintro ⟨-, h⟩; exact hd h), if_pos (by simp; omega)]; rfl
theorem nb_lt (v : Vc) (c : List Vc) (j : Nat) : nb v c j ≤ j := by
  unfold nb
  rcases bst_spec [] (dis v c) j with ⟨h1, h2⟩ | ⟨b, h1, h2, -, -⟩ <;> rw [h1] <;> simp <;> omega
theorem r18 (c : Option (List Vc)) (v : Vc) (hl : (lst c).length ≤ 7) (hne : lst c ≠ []) (h2' : ∀ x ∈ lst c, Two x v) (hv : ∀ x ∈ lst c, Sm x) (hv' : Sm v) :
    res T 18 [slV 1 vecV c, slV 1 i32V v] = some (.tup [.int .i64 (nb v (lst c) (lst c).length), .int .i64 0]) := by
  refine run_res (run_pure (fn := g18) rfl rfl (by decide) ?_)
  simp only [g18, b18, oO, oN, mV, lD, gO, pP, qQ, cI, aR]
  have hp : 0 < (lst c).length := List.length_pos_iff.2 hne
  have z0 : (((lst c).length : Int) == 0) = false := by simp; exact hne
  obtain ⟨D, hD⟩ : ∃ D, D = dis v (lst c) := ⟨_, rfl⟩
  have hDx : ∀ i (h : i < (lst c).length), distI (lst c)[i] v = D i := fun i h => by rw [hD]; simp [dis, h]
  have x0 : (lst c)[0]? = some (lst c)[0] := List.getElem?_eq_getElem hp
  have d0 := f37 (lst c)[0] v (h2' _ (List.getElem_mem hp))
  rw [hDx 0 hp] at d0
  have ea : allE (some (v :: lst c)) = 0 := by
    have hok : okV v = true := (h2' _ (List.getElem_mem hp)).2
    have hd : dm (some (v :: lst c)) = (lst v).length := rfl
    unfold allE
    rw [if_pos, if_neg]
    · rw [Bool.not_eq_true, List.any_eq_false]
      intro x hx
      rw [hd]
      rcases List.mem_cons.1 hx with rfl | hx
      · simp
      · have := (h2' x hx).3; simp; omega
    · rw [List.all_eq_true]
      intro x hx
      rcases List.mem_cons.1 hx with rfl | hx
      · exact hok
      · exact (h2' x hx).1
  have r36 := r36g (some (v :: lst c)) (by rw [lst_some, List.length_cons]; omega) (fun x hx => by
    rcases List.mem_cons.1 hx with rfl | hx
    · exact hv'
    · exact hv x hx)
  rw [ea] at r36
  have hlm : ((lst c).map vecV).length = (lst c).length := List.length_map _
  have hL : (1 + (lst c).length) * 24 ≤ LIM := by unfold LIM; omega
  obtain ⟨σ1, hσ1⟩ : ∃ σ1, σ1 = upd (upd (upd Sto.empty 0 (some (Ob.row 1 [slV 1 i32V v]))) 0 none) 1 (some (Ob.row 1 (slV 1 i32V v :: (lst c).map vecV))) := ⟨_, rfl⟩
  have e : [V.ref 1 0 (1 + (lst c).length) 1].mapM (frz σ1 12) = some [slV 1 vecV (some (v :: lst c))] := by
    have hx : frz σ1 12 (.ref 1 0 (1 + (lst c).length) 1) = some (slV 1 vecV (some (v :: lst c))) := by
      have he : elems σ1 1 (.ref 1 0 (1 + (lst c).length) 1) = some ((v :: lst c).map vecV) := by
        rw [hσ1]
        simp [elems, upd]
        exact ⟨by omega, by rw [List.take_of_length_le (by rw [List.length_cons, List.length_map]; omega)]; rfl⟩
      show (elems _ _ _).bind _ = _
      rw [he, Option.bind_some, mapM_id (fun x hx => by
        obtain ⟨y, -, rfl⟩ := List.mem_map.1 hx
        exact elemM_tr (Tr_slV _ _ _ _))]
      rfl
    simp only [List.mapM_cons, List.mapM_nil, hx]; rfl
  have f36' := fun n lk => callE_flat (fs := true) (n := n) (lk := lk) (by decide) e r36 rfl
  simp only [thaw] at f36'
  simp +contextual -implicitDefEqProofs (maxSteps := 2000000) only [↓wP, wQ, wQ1, wQ2, wQ3, wR, boxE, partsOf, ↓reduceIte, Nat.reduceEqDiff, Nat.reduceAdd, Nat.reduceSub, Nat.reduceLeDiff, Nat.reduceLT, Nat.reduceMul, reduceCtorEq, Int.reduceBNe, Int.reduceBEq, Int.reduceLT, Int.reduceLE, Int.reduceGT, z0, x0, vecV_eq, d0, true_or, hlm, hL, ← hσ1, f36']
  refine WC_for (lst c).length 0 (fun (j : Nat) env σ n => env 1 = slV 1 i32V v ∧ env 7 = .ptr 2 2 0 0 ∧ env 28 = slV 1 vecV c ∧ 3 ≤ n ∧ σ 2 = some (.row 2 [.agg [.int .u64 (nb v (lst c) j : Int), .int .u64 (D (nb v (lst c) j))]])) (by omega) (by decide) (by decide) (fun _ _ => rfl) (fun _ _ _ => rfl) ?_ ?_ _ _ _ rfl rfl ?_
  · intro j env σ n hj h1 h2 ⟨g1, g2, g3, g4, g5⟩
    simp only [vl_tmp] at h2
    have hx : (lst c)[j]? = some (lst c)[j] := List.getElem?_eq_getElem hj
    have dj := f37 (lst c)[j] v (h2' _ (List.getElem_mem hj))
    rw [hDx j hj] at dj
    have hst := nb_step v (lst c) j
    rw [← hD] at hst
    generalize (lst c)[j] = x at *
    have wj : IntKind.u64.wrap ((j : Nat) : Int) = ((j : Nat) : Int) := by rw [wrap_u64] <;> omega
    have q2 : (2 = n) = False := by simp; omega
    have q3 : (n = 2) = False := by simp; omega
    obtain ⟨σ1, hσ1⟩ : ∃ σ1, σ1 = upd (upd σ n (some (.row 2 [.agg [.int .u64 0, .int .u64 0]]))) n (some (.row 2 [.agg [.int .u64 (j : Int), .int .u64 (D j)]])) := ⟨_, rfl⟩
    have s2 : σ1 2 = some (.row 2 [.agg [.int .u64 (nb v (lst c) j : Int), .int .u64 (D (nb v (lst c) j))]]) := by rw [hσ1]; simp [upd, q2, g5]
    have sn : σ1 n = some (.row 2 [.agg [.int .u64 (j : Int), .int .u64 (D j)]]) := by rw [hσ1]; simp [upd]
    by_cases ha : cmpH ⟨j, D j⟩ ⟨nb v (lst c) j, D (nb v (lst c) j)⟩ < 0
    · have hah : ahead ⟨j, D j⟩ ⟨nb v (lst c) j, D (nb v (lst c) j)⟩ = true := by rw [← cmp_lt]; simpa using ha
      rw [if_pos hah] at hst
      simp +contextual -implicitDefEqProofs (maxSteps := 2000000) only [↓wP, wQ, wQ1, wQ2, wQ3, wR, boxE, partsOf, ↓reduceIte, Nat.reduceEqDiff, Nat.reduceAdd, Nat.reduceSub, Nat.reduceLeDiff, Nat.reduceLT, Nat.reduceMul, reduceCtorEq, Int.reduceBNe, Int.reduceBEq, Int.reduceLT, Int.reduceLE, Int.reduceGT, h1, h2, g1, g2, g3, hx, vecV_eq, dj, wj, q2, q3, ← hσ1, s2, sn, f16, ha]
      exact ⟨by omega, by rw [hst]⟩
    · have hah : ahead ⟨j, D j⟩ ⟨nb v (lst c) j, D (nb v (lst c) j)⟩ = false := by rw [← cmp_lt]; simpa using ha
      rw [if_neg (by rw [hah]; simp)] at hst
      simp +contextual -implicitDefEqProofs (maxSteps := 2000000) only [↓wP, wQ, wQ1, wQ2, wQ3, wR, boxE, partsOf, ↓reduceIte, Nat.reduceEqDiff, Nat.reduceAdd, Nat.reduceSub, Nat.reduceLeDiff, Nat.reduceLT, Nat.reduceMul, reduceCtorEq, Int.reduceBNe, Int.reduceBEq, Int.reduceLT, Int.reduceLE, Int.reduceGT, h1, h2, g1, g2, g3, hx, vecV_eq, dj, wj, q2, q3, ← hσ1, s2, sn, f16, ha]
      exact ⟨by omega, by rw [hst]⟩
  · intro env σ n ⟨g1, g2, g3, g4, g5⟩ h1 h2
    have wb : IntKind.i64.wrap ((nb v (lst c) (lst c).length : Nat) : Int) = ((nb v (lst c) (lst c).length : Nat) : Int) := by have := nb_lt v (lst c) (lst c).length; rw [wrap_i64] <;> omega
    simp +contextual -implicitDefEqProofs (maxSteps := 2000000) only [↓wP, wQ, wQ1, wQ2, wQ3, wR, boxE, partsOf, ↓reduceIte, Nat.reduceEqDiff, Nat.reduceAdd, Nat.reduceSub, Nat.reduceLeDiff, Nat.reduceLT, Nat.reduceMul, reduceCtorEq, Int.reduceBNe, Int.reduceBEq, Int.reduceLT, Int.reduceLE, Int.reduceGT, g2, g5, wb]
  · simp +contextual -implicitDefEqProofs (maxSteps := 2000000) only [↓wP, wQ, wQ1, wQ2, wQ3, wR, boxE, partsOf, ↓reduceIte, Nat.reduceEqDiff, Nat.reduceAdd, Nat.reduceSub, Nat.reduceLeDiff, Nat.reduceLT, Nat.reduceMul, reduceCtorEq, Int.reduceBNe, Int.reduceBEq, Int.reduceLT, Int.reduceLE, Int.reduceGT]
    rfl
theorem f18 (c : Option (List Vc)) (v : Vc) (hl : (lst c).length ≤ 7) (hne : lst c ≠ []) (h2 : ∀ x ∈ lst c, Two x v) (hv : ∀ x ∈ lst c, Sm x) (hv' : Sm v) (fs : Bool) (σ : Sto) (n lk : Nat) :
    callE T fs 18 [slV 1 vecV c, slV 1 i32V v] σ n lk = some (.tup [.int .i64 (nb v (lst c) (lst c).length), .int .i64 0], σ, n) :=
  callE_tr (by decide) (r18 c v hl hne h2 hv hv') (by simp [Tr, Tr_slV]) rfl fs σ n lk
end Go.Q.S14
end

section
/- What is found among what is gone over. -/
set_option linter.unusedSimpArgs false
set_option linter.unusedVariables false
namespace Go.Q.S14
open Go.Q Go.Sort
theorem hVal_frz {σ : Sto} {n : Nat} {l : List Hit} (h : l ≠ [] → σ n = some (.row 2 (hs l))) (k : Nat) : frz σ (k + 3) (hVal n l) = some (slV 2 hitV (optH l)) := by
  unfold hVal
  split
  · rename_i e; subst e; rfl
  · rename_i e
    have e1 : (rw' l.toArray).take l.length = hs l := by rw [rw_hs, hs_take, List.take_length]
    rw [frz_pre (d := l.toArray) (by simp) (by rw [rw_hs]; exact h e) k, e1]
    simp [optH, e, slV, hs]
def Iter (F : Nat) (caps : List V) (items : List Rw) (w : Nat) : Prop :=
  ∀ (J : List Rw → Sto → Nat → Prop) (D : Sto → Nat → Prop) (ok : Rw → Bool) (σ : Sto),
    (∀ pre σ n σ' n', J pre σ n → n ≤ n' → (∀ i, i < n → (i < 6 ∨ 6 + w ≤ i) → σ' i = σ i) → J pre σ' n') →
    (∀ σ n σ' n', D σ n → (∀ i, i < 6 → σ' i = σ i) → D σ' n') →
    (∀ pre x σ n, J pre σ n → 6 + w ≤ n → x ∈ items → pre.length < items.length → yieldW (run T) 5 [.int .u64 x.id, slV 1 i32V x.v] σ n 0 (fun y σ' n' => (∀ i, 6 ≤ i → i < 6 + w → σ' i = σ i) ∧ n ≤ n' ∧
      ((ok x = true ∧ y = .bool true ∧ J (pre ++ [x]) σ' n') ∨ (ok x = false ∧ y = .bool false ∧ D σ' n')))) →
    (∀ σ' n', 6 + w ≤ n' → (∀ i, i < 6 → σ' i = σ i) → J [] σ' n') →
    run T (.raw F (.yld 5 :: caps) σ 6 0) (memQ fun _ σ' n' => (items.all ok = true ∧ J items σ' n') ∨ (items.all ok = false ∧ D σ' n'))
def asg39 : AC := (.seq (.reg [⟨(some 9), none, .mov (.tmp 14)⟩]) (.reg [⟨(some 10), none, .mov (.tmp 15)⟩]))
def bd39 : AC := (.block 1 (.seq (.reg [⟨(some 17), none, .load false 1 (.tmp 5)⟩,
       ⟨(some 18), none, .mov (.tmp 9)⟩,
       ⟨(some 19), none, .mov (.tmp 10)⟩,
       ⟨(some 20), none, .callv (.tmp 17) [(.tmp 18), (.tmp 19)]⟩,
       ⟨(some 16), none, .mov (.tmp 20)⟩,
       ⟨(some 21), none, .ext (.tmp 16) 0⟩,
       ⟨(some 22), none, .ext (.tmp 16) 1⟩,
       ⟨(some 11), none, .alloc (.agg [(.int .u64 0), (.int .u64 0)])⟩,
       ⟨none, none, .store 2 (.tmp 11) (.tmp 21)⟩,
       ⟨(some 12), none, .mov (.tmp 22)⟩])
     (.seq (.seq (.reg [⟨(some 23), none, .mov (.tmp 12)⟩,
       ⟨(some 24), none, .bin .neq (.tmp 23) (.con (.int .i64 0))⟩])
     (.cond (.tmp 24)
      (.seq (.reg [⟨(some 25), none, .mov (.tmp 12)⟩,
        ⟨none, none, .store 1 (.tmp 6) (.con .nilS)⟩,
        ⟨none, none, .store 1 (.tmp 7) (.tmp 25)⟩])
      .ret)
      .skip))
     (.reg [⟨(some 26), none, .load false 1 (.tmp 8)⟩,
       ⟨(some 27), none, .load true 2 (.tmp 11)⟩,
       ⟨(some 28), none, .lit 2 [(.tmp 27)]⟩,
       ⟨(some 29), none, .append 2 16 (.tmp 26) (.tmp 28)⟩,
       ⟨none, none, .store 1 (.tmp 8) (.tmp 29)⟩]))))
theorem w_asg39 (env : Nat → V) (σ : Sto) (n lk : Nat) (Q : Ex → St → Prop) : WC T asg39 env σ n lk Q = WC T (.seq (.reg [⟨(some 9), none, .mov (.tmp 14)⟩]) (.reg [⟨(some 10), none, .mov (.tmp 15)⟩])) env σ n lk Q := rfl
theorem w_bd39 (env : Nat → V) (σ : Sto) (n lk : Nat) (Q : Ex → St → Prop) : WC T bd39 env σ n lk Q = WC T (.block 1 (.seq (.reg [⟨(some 17), none, .load false 1 (.tmp 5)⟩,
       ⟨(some 18), none, .mov (.tmp 9)⟩,
       ⟨(some 19), none, .mov (.tmp 10)⟩,
       ⟨(some 20), none, .callv (.tmp 17) [(.tmp 18), (.tmp 19)]⟩,
       ⟨(some 16), none, .mov (.tmp 20)⟩,
       ⟨(some 21), none, .ext (.tmp 16) 0⟩,
       ⟨(some 22), none, .ext (.tmp 16) 1⟩,
       ⟨(some 11), none, .alloc (.agg [(.int .u64 0), (.int .u64 0)])⟩,
       ⟨none, none, .store 2 (.tmp 11) (.tmp 21)⟩,
       ⟨(some 12), none, .mov (.tmp 22)⟩])
     (.seq (.seq (.reg [⟨(some 23), none, .mov (.tmp 12)⟩,
       ⟨(some 24), none, .bin .neq (.tmp 23) (.con (.int .i64 0))⟩])
     (.cond (.tmp 24)
      (.seq (.reg [⟨(some 25), none, .mov (.tmp 12)⟩,
        ⟨none, none, .store 1 (.tmp 6) (.con .nilS)⟩,
        ⟨none, none, .store 1 (.tmp 7) (.tmp 25)⟩])
      .ret)
      .skip))
     (.reg [⟨(some 26), none, .load false 1 (.tmp 8)⟩,
       ⟨(some 27), none, .load true 2 (.tmp 11)⟩,
       ⟨(some 28), none, .lit 2 [(.tmp 27)]⟩,
       ⟨(some 29), none, .append 2 16 (.tmp 26) (.tmp 28)⟩,
       ⟨none, none, .store 1 (.tmp 8) (.tmp 29)⟩])))) env σ n lk Q := rfl
def hitQ (q : Option (List Int)) (r : Rw) : Hit := ⟨r.id, distI q r.v⟩
structure Jq (q : Option (List Int)) (k : Int) (env : Nat → V) (w : Nat) (pre : List Rw) (σ : Sto) (n : Nat) : Prop where
  hn : 6 + w ≤ n
  s0 : σ 0 = some (.row 2 [.agg [slV 1 i32V q, .int .i64 k]])
  s1 : σ 1 = some (.row 1 [.bnd 41 [.agg [slV 1 i32V q, .int .i64 k]]])
  s2 : σ 2 = some (.row 1 [.nilS])
  s3 : σ 3 = some (.row 1 [.int .i64 0])
  s5 : σ 5 = some (.loop env [14, 15] asg39 bd39 .ready none)
  s4 : ∃ v, σ 4 = some (.row 1 [v]) ∧ Pl σ (6 + w) n 2 v (oH (pre.map (hitQ q)))
structure Dq (env : Nat → V) (σ : Sto) (n : Nat) : Prop where
  s2 : σ 2 = some (.row 1 [.nilS])
  s3 : σ 3 = some (.row 1 [.int .i64 151])
  s5 : σ 5 = some (.loop env [14, 15] asg39 bd39 .done (some .ret))
theorem Jq.frame {q : Option (List Int)} {k : Int} {env : Nat → V} {w : Nat} {pre : List Rw} {σ σ' : Sto} {n n' : Nat} (h : Jq q k env w pre σ n) (hn : n ≤ n') (hs : ∀ i, i < n → (i < 6 ∨ 6 + w ≤ i) → σ' i = σ i) : Jq q k env w pre σ' n' := by
  obtain ⟨h1, h2, h3, h4, h5, h6, v, h7, h8⟩ := h
  exact ⟨by omega, by rw [hs 0 (by omega) (by omega), h2], by rw [hs 1 (by omega) (by omega), h3], by rw [hs 2 (by omega) (by omega), h4], by rw [hs 3 (by omega) (by omega), h5], by rw [hs 5 (by omega) (by omega), h6],
    v, by rw [hs 4 (by omega) (by omega), h7], h8.loc (fun i h1 h2 => hs i h2 (by omega)) hn⟩
theorem hy39 (q : Option (List Int)) (k : Int) (hq : okV q = true) (env : Nat → V) (w : Nat) (he5 : env 5 = .ptr 1 1 0 0) (he6 : env 6 = .ptr 2 1 0 0) (he7 : env 7 = .ptr 3 1 0 0) (he8 : env 8 = .ptr 4 1 0 0) (pre : List Rw) (x : Rw) (hx : okV x.v = true) (hpre : pre.length < 1000000)
    (σ : Sto) (n : Nat) (hJ : Jq q k env w pre σ n) (MP : V → Sto → Nat → Prop)
    (hT : decide ((lst q).length = (lst x.v).length) = true → ∀ σ' n', (∀ i, 6 ≤ i → i < 6 + w → σ' i = σ i) → n ≤ n' → Jq q k env w (pre ++ [x]) σ' n' → MP (.bool true) σ' n')
    (hF : decide ((lst q).length = (lst x.v).length) = false → ∀ σ' n', (∀ i, 6 ≤ i → i < 6 + w → σ' i = σ i) → n ≤ n' → Dq env σ' n' → MP (.bool false) σ' n') :
    yieldW (run T) 5 [.int .u64 x.id, slV 1 i32V x.v] σ n 0 MP := by
  obtain ⟨h1, h2, h3, h4, h5, h6, v, h7, h8⟩ := hJ
  refine yieldW_gs h6 rfl (Nat.zero_le _) ?_
  have f := f41 q x.v k x.id (by have := (okV_len hq).1; omega) (by have := (okV_len hx).1; omega)
  have q0 : (5 = n) = False := by simp; omega
  have q1 : (n = 5) = False := by simp; omega
  have p2 : (2 = n) = False := by simp; omega
  have p3 : (3 = n) = False := by simp; omega
  have p4 : (4 = n) = False := by simp; omega
  have p5 : (1 = n) = False := by simp; omega
  by_cases hl : (lst q).length = (lst x.v).length
  · have hd : decide ((lst q).length = (lst x.v).length) = true := by simp [hl]
    have e1 : disE q x.v = 0 := by simp [disE, vAll, hq, hx, hl]
    have e2 : disV q x.v = distI q x.v := by unfold disE at e1; simp [disV, e1]
    rw [e1, e2] at f
    have hT := hT hd
    obtain ⟨σ1, hσ1⟩ : ∃ σ1, σ1 = upd (upd (upd σ 5 (some (.loop env [14, 15] asg39 bd39 .busy none))) n (some (.row 2 [.agg [.int .u64 0, .int .u64 0]]))) n (some (.row 2 [.agg [.int .u64 x.id, .int .u64 (distI q x.v)]])) := ⟨_, rfl⟩
    have so : ∀ i, i ≠ 5 → i < n → σ1 i = σ i := fun i g1 g2 => by
      have : i ≠ n := by omega
      rw [hσ1]; simp [upd, this, g1]
    have sn : σ1 n = some (.row 2 [.agg [.int .u64 x.id, .int .u64 (distI q x.v)]]) := by rw [hσ1]; simp [upd]
    have s5 : σ1 5 = some (.loop env [14, 15] asg39 bd39 .busy none) := by rw [hσ1]; simp [upd, q0]
    have s4 : σ1 4 = some (.row 1 [v]) := by rw [so 4 (by decide) (by omega), h7]
    have hc := h8.cells
    have ho := h8.one
    simp +contextual -implicitDefEqProofs (maxSteps := 2000000) only [↓wP, wQ, wQ1, wQ2, wQ3, wR, boxE, partsOf, ↓reduceIte, Nat.reduceEqDiff, Nat.reduceAdd, Nat.reduceSub, Nat.reduceLeDiff, Nat.reduceLT, Nat.reduceMul, reduceCtorEq, Int.reduceBNe, Int.reduceBEq, Int.reduceLT, Int.reduceLE, Int.reduceGT, bind_cons, bind_nil, w_asg39, w_bd39, he5, he6, he7, he8, h3, h6, h7, f, q0, q1, p2, p3, p4, p5, ← hσ1, s4, sn, s5, hc]
    refine stepW_app1 (m := 6 + w) (n0 := n) (σ0 := σ) (o := oH (pre.map (hitQ q))) h8 (fun i g1 g2 => ?_) (by omega) (by omega) (Nat.zero_le _) ?_ (fun _ σ2 g1 g2 => ?_)
    · have : i ≠ n + 1 := by omega
      simp [upd, this, so i (by omega) g2]
    · rw [lst_oH, hs_len, List.length_map]; unfold LIM; omega
    · rw [lst_oH, hs_len, List.length_map] at g1 ⊢
      have hv : ∀ i, i < 6 + w → ∀ off len s, v ≠ .ref i off len s := by
        intro i hi off len s e
        subst e
        cases ho' : oH (pre.map (hitQ q)) with
        | none => rw [ho'] at h8; simp only [Pl] at h8; cases h8
        | some xs => rw [ho'] at h8; obtain ⟨j, e, -, e2, -⟩ := h8; simp only [V.ref.injEq] at e; omega
      have t : ∀ i, i < n → (∀ off len s, v ≠ .ref i off len s) → σ2 i = σ1 i := fun i hi hne => by
        rw [g2 i (by omega) hne]
        have : i ≠ n + 1 := by omega
        simp [upd, this]
      have t4 := (t 4 (by omega) (hv 4 (by omega))).trans s4
      have t5 := (t 5 (by omega) (hv 5 (by omega))).trans s5
      have z4 : (4 = 5) = False := by simp
      have hsp : ∀ c, spliceC v 0 [c] = c := fun c => by
        cases ho' : oH (pre.map (hitQ q)) with
        | none => rw [ho'] at h8; simp only [Pl] at h8; subst h8; rfl
        | some xs => rw [ho'] at h8; obtain ⟨j, rfl, -⟩ := h8; rfl
      simp +contextual -implicitDefEqProofs (maxSteps := 2000000) only [↓wP, wQ, wQ1, wQ2, wQ3, wR, boxE, partsOf, ↓reduceIte, Nat.reduceEqDiff, Nat.reduceAdd, Nat.reduceSub, Nat.reduceLeDiff, Nat.reduceLT, Nat.reduceMul, reduceCtorEq, Int.reduceBNe, Int.reduceBEq, Int.reduceLT, Int.reduceLE, Int.reduceGT, he8, t4, t5, hsp]
      have tt : ∀ i, i < 6 + w → i ≠ 5 → σ2 i = σ i := fun i hi h5 => (t i (by omega) (hv i hi)).trans (so i h5 (by omega))
      have eo : oH ((pre ++ [x]).map (hitQ q)) = some (hs (pre.map (hitQ q)) ++ [.agg [.int .u64 x.id, .int .u64 (distI q x.v)]]) := by
        simp [oH, hs, hitV, hitQ]
      refine .inl (hT _ _ (fun i a1 a2 => ?_) (by omega) ⟨by omega, ?_, ?_, ?_, ?_, ?_, .ref (n + 2) 0 (pre.length + 1) 2, ?_, ?_⟩)
      · have b1 : i ≠ 4 := by omega
        have b2 : i ≠ 5 := by omega
        simp [upd, b1, b2, tt i a2 b2]
      · simp [upd, tt 0 (by omega) (by decide), h2]
      · simp [upd, tt 1 (by omega) (by decide), h3]
      · simp [upd, tt 2 (by omega) (by decide), h4]
      · simp [upd, tt 3 (by omega) (by decide), h5]
      · simp [upd]
      · simp [upd]
      · rw [eo]
        exact g1.loc (fun i a1 a2 => by
          have b1 : i ≠ 4 := by omega
          have b2 : i ≠ 5 := by omega
          simp [upd, b1, b2]) (Nat.le_refl _)
  · have hd : decide ((lst q).length = (lst x.v).length) = false := by simp [hl]
    have e1 : disE q x.v = 151 := by simp [disE, vAll, hq, hx, hl]
    have e2 : disV q x.v = 0 := by unfold disE at e1; simp [disV, e1]
    rw [e1, e2] at f
    have hF := hF hd
    simp +contextual -implicitDefEqProofs (maxSteps := 2000000) only [↓wP, wQ, wQ1, wQ2, wQ3, wR, boxE, partsOf, ↓reduceIte, Nat.reduceEqDiff, Nat.reduceAdd, Nat.reduceSub, Nat.reduceLeDiff, Nat.reduceLT, Nat.reduceMul, reduceCtorEq, Int.reduceBNe, Int.reduceBEq, Int.reduceLT, Int.reduceLE, Int.reduceGT, bind_cons, bind_nil, w_asg39, w_bd39, he5, he6, he7, he8, h3, h4, h5, h6, h7, f, q0, q1, p2, p3, p4, p5]
    refine .inr (hF _ _ (fun i a1 a2 => ?_) (by omega) ⟨?_, ?_, ?_⟩)
    · have b1 : i ≠ 5 := by omega
      have b2 : i ≠ 3 := by omega
      have b3 : i ≠ 2 := by omega
      have b4 : i ≠ n := by omega
      simp [upd, b1, b2, b3, b4]
    · simp [upd]
    · simp [upd]
    · simp [upd]
def sameD (q : Option (List Int)) (x : Rw) : Bool := decide ((lst q).length = (lst x.v).length)
def itL (q : Option (List Int)) (k : Nat) (l : List Rw) : List Hit := if l.all (sameD q) then fst' k (l.map (hitQ q)) else []
def itE (q : Option (List Int)) (l : List Rw) : Int := if l.all (sameD q) then 0 else 151
theorem hVal_giv' {σ : Sto} {n : Nat} {l : List Hit} (h : l ≠ [] → σ n = some (.row 2 (hs l))) : giv σ 11 (hVal n l) = some (ownH l) ∧ (gids σ 11 (hVal n l)).Nodup := by
  unfold hVal
  by_cases h0 : l = []
  · rw [if_pos h0, h0]; exact ⟨rfl, by simp [gids]⟩
  · have hat := h h0
    rw [if_neg h0, ownH_eq h0]
    have hg : ∀ x ∈ hs l, elemM (giv σ 10) x = some x := by
      intro x hx
      obtain ⟨y, -, rfl⟩ := List.mem_map.1 hx
      rfl
    have hg' : ∀ x ∈ hs l, ∀ c ∈ x.cells, gids σ 10 c = [] := by
      intro x hx c hc
      obtain ⟨y, -, rfl⟩ := List.mem_map.1 hx
      simp only [hitV, V.cells, List.mem_cons, List.not_mem_nil, or_false] at hc
      rcases hc with rfl | rfl <;> rfl
    constructor
    · simp only [giv, hat, hs_len, and_self, if_true]
      rw [mapM_id hg]; rfl
    · simp only [gids, hat]
      rw [List.flatMap_eq_nil_iff.2 fun x hx => List.flatMap_eq_nil_iff.2 fun c hc => hg' x hx c hc]
      simp
theorem r39 (q : Option (List Int)) (k : Nat) (F : Nat) (caps : List V) (items : List Rw) (w : Nat) (hq : okV q = true) (hk1 : 1 ≤ k) (hk2 : k ≤ 16) (hit : ∀ x ∈ items, okV x.v = true) (hlen : items.length ≤ 2000) (hI : Iter F caps items w) :
    res T 39 [.agg [slV 1 i32V q, .int .i64 (k : Int)], .fn F caps, .bnd 41 [.agg [slV 1 i32V q, .int .i64 (k : Int)]]] = some (.tup [ownH (itL q k items), .int .i64 (itE q items)]) := by
  refine run_res (run_own (fn := g39) rfl rfl (by decide) ?_)
  simp only [g39, b39, oO, oN, mV, lD, gO, pP, qQ, cI, aR]
  simp +contextual -implicitDefEqProofs (maxSteps := 2000000) only [↓wP, wQ, wQ1, wQ2, wQ3, wR, boxE, partsOf, ↓reduceIte, Nat.reduceEqDiff, Nat.reduceAdd, Nat.reduceSub, Nat.reduceLeDiff, Nat.reduceLT, Nat.reduceMul, reduceCtorEq, Int.reduceBNe, Int.reduceBEq, Int.reduceLT, Int.reduceLE, Int.reduceGT]
  generalize hE : pt (pt (pt (pt (pt (pt (envOf [V.agg [slV 1 i32V q, V.int IntKind.i64 (k : Int)], V.fn F caps, V.bnd 41 [V.agg [slV 1 i32V q, V.int IntKind.i64 (k : Int)]]]) 3 (V.ptr 0 2 0 0)) 5 (V.ptr 1 1 0 0)) 6 (V.ptr 2 1 0 0)) 7 (V.ptr 3 1 0 0)) 8 (V.ptr 4 1 0 0)) 13 (V.fn F caps) = env
  have e3 : env 3 = .ptr 0 2 0 0 := by rw [← hE]; rfl
  have e5 : env 5 = .ptr 1 1 0 0 := by rw [← hE]; rfl
  have e6 : env 6 = .ptr 2 1 0 0 := by rw [← hE]; rfl
  have e7 : env 7 = .ptr 3 1 0 0 := by rw [← hE]; rfl
  have e8 : env 8 = .ptr 4 1 0 0 := by rw [← hE]; rfl
  have e13 : env 13 = V.fn F caps := by rw [← hE]; rfl
  clear hE
  refine WC_rangeF (f := F) (caps := caps) e13 (Nat.zero_le _) ?_
  refine run_mono _ _ _ (fun o ho => ?_) (hI (fun pre σ n => Jq q (k : Int) env w pre σ n) (Dq env) (sameD q) _ ?_ ?_ ?_ ?_)
  · cases o <;> try exact ho.elim
    rename_i v σ' n'
    rcases ho with ⟨hB, hJ⟩ | ⟨hB, hD⟩
    · obtain ⟨h1, h2, h3, h4, h5, h6, v, h7, h8⟩ := hJ
      refine ⟨_, _, _, _, _, _, h6, by decide, ?_⟩
      have hL : itL q k items = fst' k (items.map (hitQ q)) := by unfold itL; rw [hB]; rfl
      have hE : itE q items = 0 := by unfold itE; rw [hB]; rfl
      rw [hL, hE]
      have hf : Hf (upd σ' 5 none) v (items.map (hitQ q)) := ⟨_, lst_optH _, by
        refine plHf (m := 6 + w) (n := n') (h8.loc (fun i a1 a2 => ?_) (Nat.le_refl _))
        have : i ≠ 5 := by omega
        simp [upd, this]⟩
      have mE : merE (k : Int) (items.map (hitQ q)) = 0 := by
        unfold merE; rw [if_neg (by omega), if_neg (by rw [List.length_map]; omega)]
      have mV : merV (k : Int) (items.map (hitQ q)) = fst' k (items.map (hitQ q)) := by unfold merV; rw [if_pos mE]; rfl
      have f := fun fs => f55 (k : Int) hf (by rw [List.length_map]; omega) fs n' 0
      rw [mE, mV] at f
      generalize fst' k (items.map (hitQ q)) = l at *
      have hcl : (hVal n' l).cells = [hVal n' l] := by unfold hVal; split <;> rfl
      have hon : (hVal n' l).one = true := by unfold hVal; split <;> rfl
      have hat : ∀ i, i < n' → hSto (upd σ' 5 none) n' l i = upd σ' 5 none i := fun i hi => hSto_at _ n' l hi
      have t2 : hSto (upd σ' 5 none) n' l 2 = some (.row 1 [.nilS]) := by rw [hat 2 (by omega)]; simp [upd, h4]
      have t3 : hSto (upd σ' 5 none) n' l 3 = some (.row 1 [.int .i64 0]) := by rw [hat 3 (by omega)]; simp [upd, h5]
      have tn : l ≠ [] → hSto (upd σ' 5 none) n' l n' = some (.row 2 (hs l)) := fun hne => by unfold hSto; rw [if_neg hne]; simp [upd]
      have z2 : (2 = n') = False := by simp; omega
      have z3 : (3 = n') = False := by simp; omega
      have hfz : ∀ (σ3 : Sto), (∀ i, i ≠ 2 → i ≠ 3 → σ3 i = hSto (upd σ' 5 none) n' l i) → giv σ3 11 (hVal n' l) = some (ownH l) ∧ (gids σ3 11 (hVal n' l)).Nodup := fun σ3 h9 => hVal_giv' (fun hne => by rw [h9 n' (by omega) (by omega)]; exact tn hne)
      have c4 : upd σ' 5 none 4 = some (.row 1 [v]) := by simp [upd, h7]
      have hc := h8.cells
      generalize hSto (upd σ' 5 none) n' l = σ2 at *
      generalize hVal n' l = hv at *
      generalize hN n' l = nn at *
      simp +contextual -implicitDefEqProofs (maxSteps := 2000000) only [↓wP, wQ, wQ1, wQ2, wQ3, wR, boxE, partsOf, ↓reduceIte, Nat.reduceEqDiff, Nat.reduceAdd, Nat.reduceSub, Nat.reduceLeDiff, Nat.reduceLT, Nat.reduceMul, reduceCtorEq, Int.reduceBNe, Int.reduceBEq, Int.reduceLT, Int.reduceLE, Int.reduceGT, Option.getD_none, e3, e6, e7, e8, h2, h7, hc, f, hcl, hon, t2, t3, z2, z3]
      exact giv_tup2 (hfz _ (fun i a b => by simp [upd, a, b])) rfl rfl
    · obtain ⟨h2, h3, h5⟩ := hD
      refine ⟨_, _, _, _, _, _, h5, by decide, ?_⟩
      have hL : itL q k items = [] := by unfold itL; rw [hB]; rfl
      have hE : itE q items = 151 := by unfold itE; rw [hB]; rfl
      rw [hL, hE]
      simp +contextual -implicitDefEqProofs (maxSteps := 2000000) only [↓wP, wQ, wQ1, wQ2, wQ3, wR, boxE, partsOf, ↓reduceIte, Nat.reduceEqDiff, Nat.reduceAdd, Nat.reduceSub, Nat.reduceLeDiff, Nat.reduceLT, Nat.reduceMul, reduceCtorEq, Int.reduceBNe, Int.reduceBEq, Int.reduceLT, Int.reduceLE, Int.reduceGT, Option.getD_some, e6, e7, h2, h3]
      exact giv_tup2 (r := .nilS) ⟨rfl, by simp [gids]⟩ rfl rfl
  · exact fun pre σ n σ' n' h h1 h2 => h.frame h1 h2
  · exact fun σ n σ' n' h h2 => ⟨by rw [h2 2 (by decide), h.s2], by rw [h2 3 (by decide), h.s3], by rw [h2 5 (by decide), h.s5]⟩
  · intro pre x σ n hJ hn hx hp
    exact hy39 q (k : Int) hq env w e5 e6 e7 e8 pre x (hit x hx) (by omega) σ n hJ _ (fun hd σ' n' a1 a2 a3 => ⟨a1, a2, .inl ⟨hd, rfl, a3⟩⟩) (fun hd σ' n' a1 a2 a3 => ⟨a1, a2, .inr ⟨hd, rfl, a3⟩⟩)
  · intro σ' n' hn hs
    exact ⟨hn, by rw [hs 0 (by decide)]; simp [upd], by rw [hs 1 (by decide)]; simp [upd], by rw [hs 2 (by decide)]; simp [upd], by rw [hs 3 (by decide)]; simp [upd], by rw [hs 5 (by decide)]; rfl, .nilS, by rw [hs 4 (by decide)]; simp [upd], rfl⟩
end Go.Q.S14
end

section
/- Rows, gone over: what flat finds. -/
set_option linter.unusedSimpArgs false
set_option linter.unusedVariables false
namespace Go.Q.S14
open Go.Q Go.Sort
theorem iter40 (o : Option (List Rw)) (hl : (lst o).length < 9223372036854775808) : Iter 40 [.box [slV 2 rwV o]] (lst o) 0 := by
  intro J D ok σ hfr hfD hy hJ0
  refine run_rawE (fn := g40) rfl rfl ?_
  simp only [g40, b40, oO, oN, mV, lD, gO, pP, qQ, cI, aR]
  obtain ⟨MP, hMP⟩ : ∃ MP : Sto → Nat → Prop, MP = fun σ' n' => ((lst o).all ok = true ∧ J (lst o) σ' n') ∨ ((lst o).all ok = false ∧ D σ' n') := ⟨_, rfl⟩
  simp only [← congrFun (congrFun hMP _) _]
  simp +contextual -implicitDefEqProofs (maxSteps := 2000000) only [↓wP, wQ, wQ1, wQ2, wQ3, wR, boxE, partsOf, ↓reduceIte, Nat.reduceEqDiff, Nat.reduceAdd, Nat.reduceSub, Nat.reduceLeDiff, Nat.reduceLT, Nat.reduceMul, reduceCtorEq, Int.reduceBNe, Int.reduceBEq, Int.reduceLT, Int.reduceLE, Int.reduceGT]
  refine WC_for (lst o).length 0 (fun (j : Nat) env σ n => env 0 = .yld 5 ∧ env 5 = slV 2 rwV o ∧ 6 ≤ n ∧ ((lst o).take j).all ok = true ∧ J ((lst o).take j) σ n) (by omega) (by decide) (by decide) (fun _ _ => rfl) (fun _ _ _ => rfl) ?_ ?_ _ _ _ rfl rfl ?_
  · intro j env σ n hj h1 h2 ⟨h3, h4, h5, h6, h7⟩
    simp only [vl_tmp] at h2
    have hx : (lst o)[j]? = some (lst o)[j] := List.getElem?_eq_getElem hj
    have hm : (lst o)[j] ∈ lst o := List.getElem_mem hj
    have ht : (lst o).take (j + 1) = (lst o).take j ++ [(lst o)[j]] := (List.take_append_getElem hj).symm
    generalize (lst o)[j] = x at *
    have hJ1 := hfr _ _ _ (upd (upd σ n (some (.row 2 [.agg [.int .u64 0, .nilS]]))) n (some (.row 2 [.agg [.int .u64 x.id, slV 1 i32V x.v]]))) (n + 1) h7 (by omega) (fun i hi _ => by
      have : i ≠ n := by omega
      simp [upd, this])
    simp +contextual -implicitDefEqProofs (maxSteps := 2000000) only [↓wP, wQ, wQ1, wQ2, wQ3, wR, boxE, partsOf, ↓reduceIte, Nat.reduceEqDiff, Nat.reduceAdd, Nat.reduceSub, Nat.reduceLeDiff, Nat.reduceLT, Nat.reduceMul, reduceCtorEq, Int.reduceBNe, Int.reduceBEq, Int.reduceLT, Int.reduceLE, Int.reduceGT, h1, h2, h3, h4, hx, rwV_eq]
    refine stepW_yld (yieldW_mono (fun _ _ x => x) run_mono (fun y σ' n' ⟨a1, a2, a3⟩ => ?_) (hy _ x _ _ hJ1 (by omega) hm (by rw [List.length_take]; omega)))
    rcases a3 with ⟨b1, rfl, b3⟩ | ⟨b1, rfl, b3⟩
    · have hall : ((lst o).take (j + 1)).all ok = true := by rw [ht, List.all_append, h6]; simp [b1]
      rw [← ht] at b3
      simp +contextual -implicitDefEqProofs (maxSteps := 2000000) only [↓wP, wQ, wQ1, wQ2, wQ3, wR, boxE, partsOf, ↓reduceIte, Nat.reduceEqDiff, Nat.reduceAdd, Nat.reduceSub, Nat.reduceLeDiff, Nat.reduceLT, Nat.reduceMul, reduceCtorEq, Int.reduceBNe, Int.reduceBEq, Int.reduceLT, Int.reduceLE, Int.reduceGT, h1, h2, h3, h4]
      exact ⟨by omega, hall, b3⟩
    · have hall : (lst o).all ok = false := by
        rw [List.all_eq_false]
        exact ⟨x, hm, by simp [b1]⟩
      have hmp : MP σ' n' := by rw [hMP]; exact .inr ⟨hall, b3⟩
      simp +contextual -implicitDefEqProofs (maxSteps := 2000000) only [↓wP, wQ, wQ1, wQ2, wQ3, wR, boxE, partsOf, ↓reduceIte, Nat.reduceEqDiff, Nat.reduceAdd, Nat.reduceSub, Nat.reduceLeDiff, Nat.reduceLT, Nat.reduceMul, reduceCtorEq, Int.reduceBNe, Int.reduceBEq, Int.reduceLT, Int.reduceLE, Int.reduceGT, h1, h2, h3, h4]
      exact hmp
  · intro env σ n ⟨h3, h4, h5, h6, h7⟩ h1 h2
    rw [List.take_length] at h6 h7
    have hmp : MP σ n := by rw [hMP]; exact .inl ⟨h6, h7⟩
    simp +contextual -implicitDefEqProofs (maxSteps := 2000000) only [↓wP, wQ, wQ1, wQ2, wQ3, wR, boxE, partsOf, ↓reduceIte, Nat.reduceEqDiff, Nat.reduceAdd, Nat.reduceSub, Nat.reduceLeDiff, Nat.reduceLT, Nat.reduceMul, reduceCtorEq, Int.reduceBNe, Int.reduceBEq, Int.reduceLT, Int.reduceLE, Int.reduceGT]
    exact hmp
  · simp +contextual -implicitDefEqProofs (maxSteps := 2000000) only [↓wP, wQ, wQ1, wQ2, wQ3, wR, boxE, partsOf, ↓reduceIte, Nat.reduceEqDiff, Nat.reduceAdd, Nat.reduceSub, Nat.reduceLeDiff, Nat.reduceLT, Nat.reduceMul, reduceCtorEq, Int.reduceBNe, Int.reduceBEq, Int.reduceLT, Int.reduceLE, Int.reduceGT]
    simpa using hJ0 σ 6 (by omega) (fun _ _ => rfl)
def rowsE (q : Option (List Int)) (k : Int) (l : List Rw) : Int := if qE q k ≠ 0 then qE q k else if l.all okR = false then 170 else itE q l
def rowsL (q : Option (List Int)) (k : Int) (l : List Rw) : List Hit := if qE q k ≠ 0 then [] else if l.all okR = false then [] else itL q k.toNat l
theorem r19 (o : Option (List Rw)) (q : Option (List Int)) (k : Int) (hl : (lst o).length ≤ 300) (hv : ∀ r ∈ lst o, (lst r.v).length < 9223372036854775808) (hq : (lst q).length < 9223372036854775808) : res T 19 [slV 2 rwV o, .agg [slV 1 i32V q, .int .i64 k]] = some (.tup [ownH (rowsL q k (lst o)), .int .i64 (rowsE q k (lst o))]) := by
  refine run_res (run_own (fn := g19) rfl rfl (by decide) ?_)
  simp only [g19, b19, oO, oN, mV, lD, gO, pP, qQ, cI, aR]
  have f1 := f38 q k hq
  by_cases he : qE q k = 0
  · obtain ⟨oq, hk1, hk2⟩ := qE_ok he
    rw [he] at f1
    simp +contextual -implicitDefEqProofs (maxSteps := 2000000) only [↓wP, wQ, wQ1, wQ2, wQ3, wR, boxE, partsOf, ↓reduceIte, Nat.reduceEqDiff, Nat.reduceAdd, Nat.reduceSub, Nat.reduceLeDiff, Nat.reduceLT, Nat.reduceMul, reduceCtorEq, Int.reduceBNe, Int.reduceBEq, Int.reduceLT, Int.reduceLE, Int.reduceGT, f1]
    refine WC_for (lst o).length 0 (fun (j : Nat) env σ n => env 2 = .ptr 0 1 0 0 ∧ env 3 = .ptr 1 2 0 0 ∧ env 16 = slV 2 rwV o ∧ 2 ≤ n ∧ σ 0 = some (.row 1 [slV 2 rwV o]) ∧ σ 1 = some (.row 2 [.agg [slV 1 i32V q, .int .i64 k]]) ∧ ((lst o).take j).all okR = true) (by omega) (by decide) (by decide) (fun _ _ => rfl) (fun _ _ _ => rfl) ?_ ?_ _ _ _ rfl rfl ?_
    · intro j env σ n hj h1 h2 ⟨h3, h4, h5, h6, h7, h8, h9⟩
      simp only [vl_tmp] at h2
      have hx : (lst o)[j]? = some (lst o)[j] := List.getElem?_eq_getElem hj
      have hm : (lst o)[j] ∈ lst o := List.getElem_mem hj
      have ht : (lst o).take (j + 1) = (lst o).take j ++ [(lst o)[j]] := (List.take_append_getElem hj).symm
      generalize (lst o)[j] = x at *
      have f32' := f32 x.id x.v (hv x hm)
      have q0 : (0 = n) = False := by simp; omega
      have q1 : (1 = n) = False := by simp; omega
      cases hb : okV x.v
      · rw [hb] at f32'
        have hall : (lst o).all okR = false := by
          rw [List.all_eq_false]
          exact ⟨x, hm, by simp [okR, hb]⟩
        have e1 : rowsE q k (lst o) = 170 := by simp [rowsE, he, hall]
        have e2 : rowsL q k (lst o) = [] := by simp [rowsL, he, hall]
        rw [e1, e2]
        simp +contextual -implicitDefEqProofs (maxSteps := 2000000) only [↓wP, wQ, wQ1, wQ2, wQ3, wR, boxE, partsOf, ↓reduceIte, Nat.reduceEqDiff, Nat.reduceAdd, Nat.reduceSub, Nat.reduceLeDiff, Nat.reduceLT, Nat.reduceMul, reduceCtorEq, Int.reduceBNe, Int.reduceBEq, Int.reduceLT, Int.reduceLE, Int.reduceGT, h1, h2, h3, h4, h5, hx, rwV_eq, f32', q0, q1]
        exact giv_tup2 (r := .nilS) ⟨rfl, by simp [gids]⟩ rfl rfl
      · rw [hb] at f32'
        have hall : ((lst o).take (j + 1)).all okR = true := by rw [ht, List.all_append, h9]; simp [okR, hb]
        simp +contextual -implicitDefEqProofs (maxSteps := 2000000) only [↓wP, wQ, wQ1, wQ2, wQ3, wR, boxE, partsOf, ↓reduceIte, Nat.reduceEqDiff, Nat.reduceAdd, Nat.reduceSub, Nat.reduceLeDiff, Nat.reduceLT, Nat.reduceMul, reduceCtorEq, Int.reduceBNe, Int.reduceBEq, Int.reduceLT, Int.reduceLE, Int.reduceGT, h1, h2, h3, h4, h5, h7, h8, hx, rwV_eq, f32', q0, q1]
        exact ⟨by omega, hall⟩
    · intro env σ n ⟨h3, h4, h5, h6, h7, h8, h9⟩ h1 h2
      rw [List.take_length] at h9
      obtain ⟨kn, rfl⟩ : ∃ kn : Nat, k = (kn : Int) := ⟨k.toNat, by omega⟩
      have e1 : rowsE q (kn : Int) (lst o) = itE q (lst o) := by simp [rowsE, he, h9]
      have e2 : rowsL q (kn : Int) (lst o) = itL q kn (lst o) := by simp [rowsL, he, h9]
      rw [e1, e2]
      have r := r39 q kn 40 [.box [slV 2 rwV o]] (lst o) 0 oq (by omega) (by omega) (fun x hx => List.all_eq_true.1 h9 x hx) (by omega) (iter40 o (by omega))
      have hlen : ¬ (2000 : Int) < ((lst o).length : Int) := by omega
      have q0 : (0 = n) = False := by simp; omega
      have q1 : (1 = n) = False := by simp; omega
      obtain ⟨σ1, hσ1⟩ : ∃ σ1, σ1 = upd (upd σ n (some (.row 2 [.agg [.nilS, .int .i64 0]]))) n (some (.row 2 [.agg [slV 1 i32V q, .int .i64 (kn : Int)]])) := ⟨_, rfl⟩
      have s0 : σ1 0 = some (.row 1 [slV 2 rwV o]) := by rw [hσ1]; simp [upd, q0, h7]
      have sn : σ1 n = some (.row 2 [.agg [slV 1 i32V q, .int .i64 (kn : Int)]]) := by rw [hσ1]; simp [upd]
      have e : [V.agg [slV 1 i32V q, .int .i64 (kn : Int)], V.fn 40 [.ptr 0 1 0 0], V.bnd 41 [.agg [slV 1 i32V q, .int .i64 (kn : Int)]]].mapM (frz σ1 12) =
          some [V.agg [slV 1 i32V q, .int .i64 (kn : Int)], V.fn 40 [.box [slV 2 rwV o]], V.bnd 41 [.agg [slV 1 i32V q, .int .i64 (kn : Int)]]] := by
        have x1 : frz σ1 12 (.agg [slV 1 i32V q, .int .i64 (kn : Int)]) = some (.agg [slV 1 i32V q, .int .i64 (kn : Int)]) := (frz_tr σ1 12 _ (by simp [Tr, Tr_slV])).1
        have x2 : frz σ1 12 (.bnd 41 [.agg [slV 1 i32V q, .int .i64 (kn : Int)]]) = some (.bnd 41 [.agg [slV 1 i32V q, .int .i64 (kn : Int)]]) := (frz_tr σ1 12 _ (by simp [Tr, Tr_slV])).1
        have x3 : frz σ1 12 (.fn 40 [.ptr 0 1 0 0]) = some (.fn 40 [.box [slV 2 rwV o]]) := by
          simp only [frz, rowAt, s0, List.mapM_cons, List.mapM_nil, if_true, List.getElem?_cons_zero, Option.bind_some, cl_slV, List.drop_zero, frz_slV]
          rfl
        simp only [List.mapM_cons, List.mapM_nil, x1, x2, x3]
        rfl
      have f39 := callE_flat (by decide) e r (flat_tup2 (flat_ownH _) rfl) true (n + 1) 0
      rw [thaw_hTup] at f39
      have hg := hVal_giv11 σ1 (n + 1) (itL q kn (lst o))
      simp +contextual -implicitDefEqProofs (maxSteps := 2000000) only [↓wP, wQ, wQ1, wQ2, wQ3, wR, boxE, partsOf, ↓reduceIte, Nat.reduceEqDiff, Nat.reduceAdd, Nat.reduceSub, Nat.reduceLeDiff, Nat.reduceLT, Nat.reduceMul, reduceCtorEq, Int.reduceBNe, Int.reduceBEq, Int.reduceLT, Int.reduceLE, Int.reduceGT, h1, h2, h3, h4, h5, h7, h8, hlen, q0, q1, ← hσ1, sn, f39]
      exact giv_tup2 hg rfl rfl
    · simp +contextual -implicitDefEqProofs (maxSteps := 2000000) only [↓wP, wQ, wQ1, wQ2, wQ3, wR, boxE, partsOf, ↓reduceIte, Nat.reduceEqDiff, Nat.reduceAdd, Nat.reduceSub, Nat.reduceLeDiff, Nat.reduceLT, Nat.reduceMul, reduceCtorEq, Int.reduceBNe, Int.reduceBEq, Int.reduceLT, Int.reduceLE, Int.reduceGT]
  · have hd : (qE q k != 0) = true := by simpa using he
    have e1 : rowsE q k (lst o) = qE q k := by simp [rowsE, he]
    have e2 : rowsL q k (lst o) = [] := by simp [rowsL, he]
    rw [e1, e2]
    simp +contextual -implicitDefEqProofs (maxSteps := 2000000) only [↓wP, wQ, wQ1, wQ2, wQ3, wR, boxE, partsOf, ↓reduceIte, Nat.reduceEqDiff, Nat.reduceAdd, Nat.reduceSub, Nat.reduceLeDiff, Nat.reduceLT, Nat.reduceMul, reduceCtorEq, Int.reduceBNe, Int.reduceBEq, Int.reduceLT, Int.reduceLE, Int.reduceGT, f1, hd]
    exact giv_tup2 (r := .nilS) ⟨rfl, by simp [gids]⟩ rfl rfl
end Go.Q.S14
end

section
/- Rows and probes that can be gone through. -/
set_option linter.unusedSimpArgs false
set_option linter.unusedVariables false
namespace Go.Q.S14
open Go.Q Go.Sort
theorem mg1 (σ : Sto) (n : Nat) (o : Option Ob) : merge σ (upd σ n o) n = upd σ n o := by
  funext i
  have := big_le
  unfold merge upd
  by_cases h : i = n
  · subst h; rw [if_pos ⟨Nat.le_refl _, by omega⟩]
  · simp [h]
def cutR (r : Rw) : Rw := ⟨r.id, cut r.v⟩
def cutL (l : Option (List Rw)) : Option (List Rw) := oL (((lst l).take 60).map cutR)
theorem r13 (l : Option (List Rw)) (hl : (lst l).length < 4611686018427387904) (hv : ∀ r ∈ lst l, Sm r.v) : res T 13 [slV 2 rwV l] = some (slV 2 rwV (cutL l)) := by
  refine run_res (run_pure (fn := g13) rfl rfl (by decide) ?_)
  simp only [g13, b13, oO, oN, mV, lD, gO, pP, qQ, cI, aR]
  simp +contextual -implicitDefEqProofs (maxSteps := 2000000) only [↓wP, wQ, wQ1, wQ2, wQ3, wR, boxE, partsOf, ↓reduceIte, Nat.reduceEqDiff, Nat.reduceAdd, Nat.reduceSub, Nat.reduceLeDiff, Nat.reduceLT, Nat.reduceMul, reduceCtorEq, Int.reduceBNe, Int.reduceBEq, Int.reduceLT, Int.reduceLE, Int.reduceGT]
  refine WC_for (lst l).length 0 (fun (j : Nat) env σ n => env 6 = slV 2 rwV l ∧ ∃ v, env 3 = v ∧ Pl σ 0 n 2 v (oL ((((lst l).take (min j 60)).map cutR).map rwV))) (by omega) (by decide) (by decide) (fun _ _ => rfl) (fun _ _ _ => rfl) ?_ ?_ _ _ _ rfl rfl ?_
  · intro j env σ n hj h1 h2 ⟨h3, v, h4, h5⟩
    simp only [vl_tmp] at h2
    have hx : (lst l)[j]? = some (lst l)[j] := List.getElem?_eq_getElem hj
    have f := f9 _ (hv _ (List.getElem_mem hj))
    have ht : (lst l).take (j + 1) = (lst l).take j ++ [(lst l)[j]] := (List.take_append_getElem hj).symm
    generalize (lst l)[j] = x at *
    have hc := h5.cells
    have ho := h5.one
    have hsp := spl h5
    obtain ⟨σ1, hσ1⟩ : ∃ σ1, σ1 = upd (upd σ n (some (.row 2 [.agg [.int .u64 0, .nilS]]))) n (some (.row 2 [.agg [.int .u64 x.id, slV 1 i32V x.v]])) := ⟨_, rfl⟩
    have so : ∀ i, i < n → σ1 i = σ i := fun i hi => by rw [hσ1, upd_ne (by omega), upd_ne (by omega)]
    have sn : σ1 n = some (.row 2 [.agg [.int .u64 x.id, slV 1 i32V x.v]]) := by rw [hσ1, upd_self]
    by_cases h6 : (j : Int) < 60
    · rw [show min j 60 = j by omega] at h5
      have hlen : ((((lst l).take j).map cutR).map rwV).length = j := by rw [List.length_map, List.length_map, List.length_take]; omega
      have y0 : ∀ hid, hide σ1 (n + 1) (n + 1) hid n = σ1 n := fun hid => hide_low _ _ _ _ (by omega) (Nat.le_refl _)
      have hB := big_le
      have u1 : (n + 2 ≤ n + (1 + BIG)) = True := by simp; omega
      have hB1 : ∃ m, m = n + (1 + BIG) ∧ n + 2 ≤ m := ⟨_, rfl, by omega⟩
      obtain ⟨m, hm, hmn⟩ := hB1
      have hmn2 : (n + 2 ≤ m) = True := by simp; exact hmn
      have ce : ∀ (x : V) (i : Nat), elemsO (upd σ1 i (some (Ob.row 2 [x])) i) 2 0 1 = some [x] := fun x i => by rw [upd_self]; rfl
      simp +contextual -implicitDefEqProofs (maxSteps := 2000000) only [↓wP, wQ, wQ1, wQ2, wQ3, wR, boxE, partsOf, ↓reduceIte, Nat.reduceEqDiff, Nat.reduceAdd, Nat.reduceSub, Nat.reduceLeDiff, Nat.reduceLT, Nat.reduceMul, reduceCtorEq, Int.reduceBNe, Int.reduceBEq, Int.reduceLT, Int.reduceLE, Int.reduceGT, h1, h2, h3, h4, hx, rwV_eq, h6, f, ← hσ1, sn, y0, u1, mg1, Nat.mul_one, ce, ← hm, hmn2]
      refine stepW_app1 (m := 0) (n0 := n) (σ0 := σ) h5 (fun i g1 g2 => ?_) (by omega) (by omega) (Nat.zero_le _) ?_ (fun _ σ2 g1 g2 => ?_)
      · rw [upd_ne (by omega), so i g2]
      · rw [lst_oL, hlen]; unfold LIM; omega
      · rw [lst_oL, hlen] at g1 ⊢
        simp +contextual -implicitDefEqProofs (maxSteps := 2000000) only [↓wP, wQ, wQ1, wQ2, wQ3, wR, boxE, partsOf, ↓reduceIte, Nat.reduceEqDiff, Nat.reduceAdd, Nat.reduceSub, Nat.reduceLeDiff, Nat.reduceLT, Nat.reduceMul, reduceCtorEq, Int.reduceBNe, Int.reduceBEq, Int.reduceLT, Int.reduceLE, Int.reduceGT, h1, h2, h3, hc, hsp]
        refine ⟨_, rfl, ?_⟩
        rw [show min (j + 1) 60 = j + 1 by omega, ht, List.map_append, List.map_append]
        have e2 : oL ((((lst l).take j).map cutR).map rwV ++ [rwV (cutR x)]) = some ((((lst l).take j).map cutR).map rwV ++ [rwV (cutR x)]) := by
          cases ((lst l).take j) <;> rfl
        simp only [List.map_cons, List.map_nil]
        rw [e2]
        exact g1
    · simp +contextual -implicitDefEqProofs (maxSteps := 2000000) only [↓wP, wQ, wQ1, wQ2, wQ3, wR, boxE, partsOf, ↓reduceIte, Nat.reduceEqDiff, Nat.reduceAdd, Nat.reduceSub, Nat.reduceLeDiff, Nat.reduceLT, Nat.reduceMul, reduceCtorEq, Int.reduceBNe, Int.reduceBEq, Int.reduceLT, Int.reduceLE, Int.reduceGT, h1, h2, h3, h4, hx, rwV_eq, h6, ← hσ1]
      rw [show min (j + 1) 60 = min j 60 by omega]
      exact ⟨_, rfl, h5.loc (fun i a b => so i b) (by omega)⟩
  · intro env σ n ⟨h3, v, h4, h5⟩ h1 h2
    simp +contextual -implicitDefEqProofs (maxSteps := 2000000) only [↓wP, wQ, wQ1, wQ2, wQ3, wR, boxE, partsOf, ↓reduceIte, Nat.reduceEqDiff, Nat.reduceAdd, Nat.reduceSub, Nat.reduceLeDiff, Nat.reduceLT, Nat.reduceMul, reduceCtorEq, Int.reduceBNe, Int.reduceBEq, Int.reduceLT, Int.reduceLE, Int.reduceGT, h4]
    have hf := h5.frz (fun x hx => by rw [lst_oL] at hx; obtain ⟨y, -, rfl⟩ := List.mem_map.1 hx; simp [rwV_eq, Tr, Tr_slV]) (fun x hx c hc => by
        rw [lst_oL] at hx; obtain ⟨y, -, rfl⟩ := List.mem_map.1 hx
        simp only [rwV_eq, V.cells, List.mem_cons, List.not_mem_nil, or_false] at hc
        rcases hc with rfl | rfl
        · rfl
        · exact Tr_slV _ _ _ _)
    rw [hf, slV_oL]
    have : (lst l).take (min (lst l).length 60) = (lst l).take 60 := by rw [Nat.min_comm]; exact List.take_eq_take_min.symm
    rw [this]; rfl
  · simp +contextual -implicitDefEqProofs (maxSteps := 2000000) only [↓wP, wQ, wQ1, wQ2, wQ3, wR, boxE, partsOf, ↓reduceIte, Nat.reduceEqDiff, Nat.reduceAdd, Nat.reduceSub, Nat.reduceLeDiff, Nat.reduceLT, Nat.reduceMul, reduceCtorEq, Int.reduceBNe, Int.reduceBEq, Int.reduceLT, Int.reduceLE, Int.reduceGT]
    simp [oL, Pl]
theorem r14 (q : Vc) (k ts m : Int) (hq : Sm q) : res T 14 [.agg [slV 1 i32V q, .int .i64 k, .int .u64 ts, .int .i64 m]] = some (.agg [slV 1 i32V (cut q), .int .i64 k, .int .u64 ts, .int .i64 m]) := by
  refine run_res (run_pure (fn := g14) rfl rfl (by decide) ?_)
  simp only [g14, b14, oO, oN, mV, lD, gO, pP, qQ, cI, aR]
  have f := f9 q hq
  simp +contextual -implicitDefEqProofs (maxSteps := 2000000) only [↓wP, wQ, wQ1, wQ2, wQ3, wR, boxE, partsOf, ↓reduceIte, Nat.reduceEqDiff, Nat.reduceAdd, Nat.reduceSub, Nat.reduceLeDiff, Nat.reduceLT, Nat.reduceMul, reduceCtorEq, Int.reduceBNe, Int.reduceBEq, Int.reduceLT, Int.reduceLE, Int.reduceGT, f]
theorem f14 (q : Vc) (k ts m : Int) (hq : Sm q) (fs : Bool) (σ : Sto) (n lk : Nat) : callE T fs 14 [.agg [slV 1 i32V q, .int .i64 k, .int .u64 ts, .int .i64 m]] σ n lk = some (.agg [slV 1 i32V (cut q), .int .i64 k, .int .u64 ts, .int .i64 m], σ, n) :=
  callE_tr (by decide) (r14 q k ts m hq) (by simp [Tr, Tr_slV]) (by simp [Nw, Nw_slV]) fs σ n lk
theorem f13 (l : Option (List Rw)) (hl : (lst l).length < 4611686018427387904) (hv : ∀ r ∈ lst l, Sm r.v) (fs : Bool) (σ : Sto) (n lk : Nat) : callE T fs 13 [slV 2 rwV l] σ n lk = some (slV 2 rwV (cutL l), σ, n) :=
  callE_tr (by decide) (r13 l hl hv) (by simp [Tr, Tr_slV]) (Nw_slV _ _ _ _) fs σ n lk
theorem cutL_len (l : Option (List Rw)) : (lst (cutL l)).length ≤ 60 := by unfold cutL; rw [lst_oL, List.length_map, List.length_take]; omega
theorem cutL_sm (l : Option (List Rw)) : ∀ r ∈ lst (cutL l), Sm r.v := by
  intro v hv
  unfold cutL at hv
  rw [lst_oL] at hv
  obtain ⟨x, -, rfl⟩ := List.mem_map.1 hv
  exact cut_sm x.v
end Go.Q.S14
end

section
/- What is found among rows, of the nearest lists. -/
set_option linter.unusedSimpArgs false
set_option linter.unusedVariables false
namespace Go.Q.S14
open Go.Q Go.Sort
def bV (b : Bool) : V := .bool b
theorem keyInt : KeyOk (.one .int) iV := by
  intro a b
  rfl
def selN (q : Vc) (c : List Vc) (m : Int) (l : List Rw) : List Rw := l.filter fun r => decide (((nb r.v c c.length : Nat) : Int) ∈ near q c m)
def pE (o : List Rw) (c : Option (List Vc)) (q : Vc) (k m : Int) : Int :=
  if chkE q k m ≠ 0 then chkE q k m else if trE c ≠ 0 then trE c else if o.any (fun r => !okV r.v) then 170 else if dm c ≠ (lst q).length ∨ o.any (fun r => ((lst r.v).length : Int) != ((lst q).length : Int)) = true then 151 else 0
def pL (o : List Rw) (c : Option (List Vc)) (q : Vc) (k m : Int) : List Hit := if pE o c q k m = 0 then fst' k.toNat ((selN q (lst c) m o).map (hitQ q)) else []
theorem selN_len (q : Vc) (c : List Vc) (m : Int) (l : List Rw) : (selN q c m l).length ≤ l.length := List.length_filter_le _ _
theorem selN_snoc (q : Vc) (c : List Vc) (m : Int) (l : List Rw) (r : Rw) : selN q c m (l ++ [r]) = selN q c m l ++ if ((nb r.v c c.length : Nat) : Int) ∈ near q c m then [r] else [] := by
  unfold selN
  rw [List.filter_append]
  congr 1
  simp only [List.filter_cons, List.filter_nil, decide_eq_true_eq]
theorem chk0 {q : Vc} {k m : Int} (h : chkE q k m = 0) : qE q k = 0 ∧ okV q = true ∧ 1 ≤ k ∧ k ≤ 16 ∧ 1 ≤ m := by
  unfold chkE at h
  by_cases h1 : k < 1
  · rw [if_pos h1] at h; cases h
  · by_cases h2 : 16 < k
    · rw [if_neg h1, if_pos h2] at h; cases h
    · rw [if_neg h1, if_neg h2] at h
      by_cases h3 : askE m = 0
      · rw [if_neg (by omega)] at h
        have hm : 1 ≤ m := by unfold askE at h3; split at h3; cases h3; omega
        cases ho : okV q
        · rw [ho] at h; cases h
        · refine ⟨?_, rfl, by omega, by omega, hm⟩
          unfold qE
          rw [if_neg h1, if_neg h2, ho]; rfl
      · rw [if_pos h3] at h; exact absurd h h3
def ask15 : AC := (.reg [⟨(some 12), none, .mov (.tmp 50)⟩])
def bd15 : AC := (.block 1 (.reg [⟨(some 51), none, .load false 1 (.tmp 11)⟩,
       ⟨(some 52), none, .mov (.tmp 12)⟩,
       ⟨none, none, .mupd (.one .int) (.tmp 51) (.tmp 52) (.con (.bool true))⟩]))
theorem w_ask15 (env : Nat → V) (σ : Sto) (n lk : Nat) (Q : Ex → St → Prop) : WC T ask15 env σ n lk Q = WC T (.reg [⟨(some 12), none, .mov (.tmp 50)⟩]) env σ n lk Q := rfl
theorem w_bd15 (env : Nat → V) (σ : Sto) (n lk : Nat) (Q : Ex → St → Prop) : WC T bd15 env σ n lk Q = WC T (.block 1 (.reg [⟨(some 51), none, .load false 1 (.tmp 11)⟩,
       ⟨(some 52), none, .mov (.tmp 12)⟩,
       ⟨none, none, .mupd (.one .int) (.tmp 51) (.tmp 52) (.con (.bool true))⟩])) env σ n lk Q := rfl
structure J15 (env : Nat → V) (X : Ob) (ids : List Int) (j : Nat) (σ : Sto) (n : Nat) : Prop where
  hn : 5 ≤ n
  s4 : σ 4 = some (.loop env [50] ask15 bd15 .ready none)
  s0 : σ 0 = some X
  s3 : σ 3 = some (.row 1 [.mp 2])
  s2 : ∃ Lm clk, MOk Lm clk ∧ σ 2 = some (.map (ens iV bV Lm) clk) ∧ ∀ x, (vw Lm x).getD false = decide (x ∈ ids.take j)
theorem J15.frame {env : Nat → V} {X : Ob} {ids : List Int} {j : Nat} {σ σ' : Sto} {n n' : Nat} (h : J15 env X ids j σ n) (hn : n ≤ n') (hs : ∀ i, i < n → σ' i = σ i) : J15 env X ids j σ' n' := by
  obtain ⟨h1, h2, h0, h3, Lm, clk, h4, h5, h6⟩ := h
  exact ⟨by omega, by rw [hs 4 (by omega), h2], by rw [hs 0 (by omega), h0], by rw [hs 3 (by omega), h3], Lm, clk, h4, by rw [hs 2 (by omega), h5], h6⟩
theorem hy15 (env : Nat → V) (X : Ob) (ids : List Int) (he : env 11 = .ptr 3 1 0 0) (j : Nat) (hj : j < ids.length) (x : Int) (hx : ids[j] = x) (σ : Sto) (n : Nat) (hJ : J15 env X ids j σ n) (hn : 4 < n) :
    yieldW (run T) 4 [.int .i64 x] σ n 0 (fun y σ' n' => n ≤ n' ∧ y = .bool true ∧ J15 env X ids (j + 1) σ' n') := by
  obtain ⟨h1, h2, h0, h3, Lm, clk, h4, h5, h6⟩ := hJ
  refine yieldW_gs h2 rfl (Nat.zero_le _) ?_
  have hS : upd σ 4 (some (.loop env [50] ask15 bd15 .busy none)) 2 = some (.map (ens iV bV Lm) clk) := by simp [upd, h5]
  have p := mupd_ens (ke := iV) (ve := bV) (lk := 0) keyInt h4 hS (Nat.zero_le _) x true n
  simp only [iV, bV] at p
  simp +contextual -implicitDefEqProofs (maxSteps := 2000000) only [↓wP, wQ, wQ1, wQ2, wQ3, wR, boxE, partsOf, ↓reduceIte, Nat.reduceEqDiff, Nat.reduceAdd, Nat.reduceSub, Nat.reduceLeDiff, Nat.reduceLT, Nat.reduceMul, reduceCtorEq, Int.reduceBNe, Int.reduceBEq, Int.reduceLT, Int.reduceLE, Int.reduceGT, bind_cons, bind_nil, w_ask15, w_bd15, he, h2, h3, p]
  refine .inl ⟨by omega, by simp [upd], by simp [upd, h0], by simp [upd, h3], (mput Lm clk x true).1, (mput Lm clk x true).2, mput_ok h4 _ _, by simp [upd], fun y => ?_⟩
  rw [vw_mput, show ids.take (j + 1) = ids.take j ++ [ids[j]] from (List.take_append_getElem hj).symm, hx]
  by_cases e : y = x
  · subst e; simp
  · rw [if_neg e, h6 y]; simp [e]
theorem r15 (o : Option (List Rw)) (c : Option (List Vc)) (q : Vc) (k ts m : Int) (hl : (lst o).length ≤ 300) (hv : ∀ r ∈ lst o, Sm r.v) (hcl : (lst c).length ≤ 7) (hcv : ∀ v ∈ lst c, Sm v) (hq : Sm q) : res T 15 [slV 2 rwV o, slV 1 vecV c, .agg [slV 1 i32V q, .int .i64 k, .int .u64 ts, .int .i64 m]] = some (.tup [ownH (pL (lst o) c q k m), .int .i64 (pE (lst o) c q k m)]) := by
  refine run_res (run_own (fn := g15) rfl rfl (by decide) ?_)
  simp only [g15, b15, oO, oN, mV, lD, gO, pP, qQ, cI, aR]
  have f1 := f29 q k ts m hq
  have f2 := f23 c hcl hcv
  have f3 := callE_tr (by decide) (r30g o 31 [] (fun r => !okV r.v) (by omega) rfl (fun x hx fs σ n lk => f31 x.id x.v (hv x hx) fs σ n lk)) (by simp [Tr, Tr_slV]) rfl
  by_cases hc : chkE q k m = 0
  · obtain ⟨hqe, oq, hk1, hk2, hm1⟩ := chk0 hc
    rw [hc] at f1
    by_cases ht : trE c = 0
    · rw [ht] at f2
      have hne : lst c ≠ [] := by intro h; unfold trE at ht; rw [if_pos h] at ht; cases ht
      have hce : cents c = true := by
        unfold trE at ht; rw [if_neg hne] at ht
        cases h : cents c
        · rw [h] at ht; cases ht
        · rfl
      cases hr : (lst o).any (fun r => !okV r.v)
      · rw [hr] at f3
        obtain ⟨v0, hv0, hd⟩ := dm_get hne
        have f4 := fun (σ : Sto) (h0 : σ 1 = some (.row 1 [.int .i64 ((lst q).length : Int)])) (n lk : Nat) => callE_flat (σ := σ) (fs := true) (n := n) (lk := lk) (by decide) (show [slV 2 rwV o, V.fn 33 [.ptr 1 1 0 0]].mapM (frz σ 12) = some [slV 2 rwV o, .fn 33 [.box [.int .i64 ((lst q).length : Int)]]] by
            have hx : frz σ 12 (.fn 33 [.ptr 1 1 0 0]) = some (.fn 33 [.box [.int .i64 ((lst q).length : Int)]]) := by
              simp only [frz, rowAt, h0, List.mapM_cons, List.mapM_nil, if_true, List.getElem?_cons_zero, Option.bind_some, V.cells, List.drop_zero]
              rfl
            simp only [List.mapM_cons, List.mapM_nil, frz_slV, hx]; rfl) (r30g o 33 [.box [.int .i64 ((lst q).length : Int)]] (fun r => ((lst r.v).length : Int) != ((lst q).length : Int)) (by omega) (by simp [Tr]) (fun x hx fs σ n lk => f33 x.id x.v _ fs σ n lk)) rfl
        by_cases hx : dm c = (lst q).length
        · have hx' : (((lst v0).length : Int) != ((lst q).length : Int)) = false := by rw [← hd, hx]; simp
          cases hsd : (lst o).any (fun r => ((lst r.v).length : Int) != ((lst q).length : Int))
          · rw [hsd] at f4
            have e1 : pE (lst o) c q k m = 0 := by unfold pE; simp [hc, ht, hr, hx, hsd]
            rw [e1]
            obtain ⟨S1, hS1⟩ : ∃ S1, S1 = upd (upd (upd Sto.empty 0 (some (Ob.row 4 [V.agg [slV 1 i32V q, V.int IntKind.i64 k, V.int IntKind.u64 ts, V.int IntKind.i64 m]]))) 1 (some (Ob.row 1 [V.int IntKind.i64 0]))) 1 (some (Ob.row 1 [V.int IntKind.i64 ↑(lst q).length])) := ⟨_, rfl⟩
            have t1 : S1 1 = some (.row 1 [.int .i64 ((lst q).length : Int)]) := by rw [hS1, upd_self]
            have t0 : S1 0 = some (Ob.row 4 [V.agg [slV 1 i32V q, V.int IntKind.i64 k, V.int IntKind.u64 ts, V.int IntKind.i64 m]]) := by rw [hS1]; simp [upd]
            have f4' := f4 S1 t1
            simp only [thaw] at f4'
            have r24' := r24 q k ts m c hce hcv hq oq hx hne
            have f24 := callE_tr (by decide) r24' (by simp [srcV, Tr, Tr_slV]) (by simp [srcV, Nw])
            simp only [srcV] at f24
            simp +contextual -implicitDefEqProofs (maxSteps := 2000000) only [↓wP, wQ, wQ1, wQ2, wQ3, wR, boxE, partsOf, ↓reduceIte, Nat.reduceEqDiff, Nat.reduceAdd, Nat.reduceSub, Nat.reduceLeDiff, Nat.reduceLT, Nat.reduceMul, reduceCtorEq, Int.reduceBNe, Int.reduceBEq, Int.reduceLT, Int.reduceLE, Int.reduceGT, f1, f2, f3, hv0, vecV_eq, hx', ← hS1, t0, t1, f4', f24]
            refine WC_env fun env hE => ?_
            have e49 : env 49 = .fn 48 [.box [.sl 2 (hs (srt (ctH q (lst c) 0)))], .box (srcV q k ts m c)] := by rw [hE]; rfl
            have e0 : env 0 = slV 2 rwV o := by rw [hE]; rfl
            have e1' : env 1 = slV 1 vecV c := by rw [hE]; rfl
            have e5 : env 5 = .ptr 0 4 0 0 := by rw [hE]; rfl
            have e11 : env 11 = .ptr 3 1 0 0 := by rw [hE]; rfl
            clear hE
            have h2 := nr_two hce oq hx
            obtain ⟨ids, hids⟩ : ∃ ids, ids = near q (lst c) m := ⟨_, rfl⟩
            have hnl : ids.length = min m.toNat (lst c).length := by rw [hids]; exact near_len _ _ _ (by omega)
            have hlen : (srt (ctH q (lst c) 0)).length = (lst c).length := by rw [srt_len, ctH_len]
            have hce6 := cents_len hce
            obtain ⟨X, hX⟩ : ∃ X, X = Ob.row 4 [V.agg [slV 1 i32V q, V.int IntKind.i64 k, V.int IntKind.u64 ts, V.int IntKind.i64 m]] := ⟨_, rfl⟩
            rw [← hX] at t0
            refine WC_rangeF (f := 48) (caps := _) e49 (Nat.zero_le _) ?_
            refine run_mono _ _ _ (fun o' ho => ?_) (iter48 q k ts m c (srt (ctH q (lst c) 0)) 4 (fun j σ n => J15 env X ids j σ n) _ 5 (by omega) (by omega) (fun h hh => by have := ct_id hh; omega) (by omega) ?_ ?_ ?_)
            · cases o' <;> try exact ho.elim
              rename_i vv σ' n'
              obtain ⟨h1, h4, h0, h3, Lm, clk, m1, m2, m3⟩ := ho
              refine ⟨_, _, _, _, _, _, h4, by decide, ?_⟩
              rw [hlen, ← hnl, List.take_length] at m3
              obtain ⟨S2, hS2⟩ : ∃ S2, S2 = upd σ' 4 none := ⟨_, rfl⟩
              have u0 : S2 0 = some X := by rw [hS2]; simp [upd, h0]
              have u2 : S2 2 = some (.map (ens iV bV Lm) clk) := by rw [hS2]; simp [upd, m2]
              have u3 : S2 3 = some (.row 1 [.mp 2]) := by rw [hS2]; simp [upd, h3]
              simp +contextual -implicitDefEqProofs (maxSteps := 2000000) only [↓wP, wQ, wQ1, wQ2, wQ3, wR, boxE, partsOf, ↓reduceIte, Nat.reduceEqDiff, Nat.reduceAdd, Nat.reduceSub, Nat.reduceLeDiff, Nat.reduceLT, Nat.reduceMul, reduceCtorEq, Int.reduceBNe, Int.reduceBEq, Int.reduceLT, Int.reduceLE, Int.reduceGT, Option.getD_none, ← hS2, e0]
              refine WC_for (lst o).length 0 (fun (j : Nat) env σ n => env 1 = slV 1 vecV c ∧ env 5 = .ptr 0 4 0 0 ∧ env 11 = .ptr 3 1 0 0 ∧ env 53 = slV 2 rwV o ∧ 5 ≤ n ∧ σ 0 = some X ∧ σ 2 = some (.map (ens iV bV Lm) clk) ∧ σ 3 = some (.row 1 [.mp 2]) ∧
                ∃ v, env 13 = v ∧ Pl σ 5 n 2 v (oL ((selN q (lst c) m ((lst o).take j)).map rwV))) (by omega) (by decide) (by decide) (fun _ _ => rfl) (fun _ _ _ => rfl) ?_ ?_ _ _ _ rfl rfl ?_
              · intro j env σ n hj g1 g2 ⟨k1, k2, k3, k4, k5, k6, k7, k8, v, k9, k10⟩
                simp only [vl_tmp] at g2
                have hxo : (lst o)[j]? = some (lst o)[j] := List.getElem?_eq_getElem hj
                have hmo := List.getElem_mem hj
                have htk : (lst o).take (j + 1) = (lst o).take j ++ [(lst o)[j]] := (List.take_append_getElem hj).symm
                have hsn := selN_snoc q (lst c) m ((lst o).take j) (lst o)[j]
                rw [← htk] at hsn
                have hvx := hv _ hmo
                have hok : okV (lst o)[j].v = true := by
                  have := List.any_eq_false.1 hr _ hmo
                  simpa using this
                have hdx : (lst (lst o)[j].v).length = (lst q).length := by
                  have := List.any_eq_false.1 hsd _ hmo
                  simp at this; omega
                generalize (lst o)[j] = x at *
                have f18' := f18 c x.v hcl hne (nr_two hce hok (by omega)) hcv hvx
                obtain ⟨p, hp⟩ : ∃ p, p = ((nb x.v (lst c) (lst c).length : Nat) : Int) := ⟨_, rfl⟩
                rw [← hp] at f18' hsn
                have hc' := k10.cells
                have ho' := k10.one
                have hsp := spl k10
                have hmg : mgetE false (.one .int) (.bool false) (some (ens iV bV Lm)) (.int .i64 p) = some (.bool (decide (p ∈ ids))) := by
                  have := mget_ens (ve := bV) keyInt false (.bool false) p Lm
                  simp only [iV] at this
                  rw [this, ← m3 p]
                  cases vw Lm p <;> rfl
                obtain ⟨σ1, hσ1⟩ : ∃ σ1, σ1 = upd (upd σ n (some (.row 2 [.agg [.int .u64 0, .nilS]]))) n (some (.row 2 [.agg [.int .u64 x.id, slV 1 i32V x.v]])) := ⟨_, rfl⟩
                have so : ∀ i, i < n → σ1 i = σ i := fun i hi => by rw [hσ1, upd_ne (by omega), upd_ne (by omega)]
                have sn : σ1 n = some (.row 2 [.agg [.int .u64 x.id, slV 1 i32V x.v]]) := by rw [hσ1, upd_self]
                have s2 := (so 2 (by omega)).trans k7
                have s3 := (so 3 (by omega)).trans k8
                rw [← hids] at hsn
                by_cases hmem : p ∈ ids
                · rw [if_pos hmem] at hsn
                  have hdm : decide (p ∈ ids) = true := decide_eq_true hmem
                  rw [hdm] at hmg
                  have hll : ((selN q (lst c) m ((lst o).take j)).map rwV).length ≤ j := by
                    have := selN_len q (lst c) m ((lst o).take j)
                    rw [List.length_take] at this
                    rw [List.length_map]; omega
                  simp +contextual -implicitDefEqProofs (maxSteps := 2000000) only [↓wP, wQ, wQ1, wQ2, wQ3, wR, boxE, partsOf, ↓reduceIte, Nat.reduceEqDiff, Nat.reduceAdd, Nat.reduceSub, Nat.reduceLeDiff, Nat.reduceLT, Nat.reduceMul, reduceCtorEq, Int.reduceBNe, Int.reduceBEq, Int.reduceLT, Int.reduceLE, Int.reduceGT, g1, g2, k1, k2, k3, k4, k9, hxo, rwV_eq, ← hσ1, sn, s2, s3, f18', hmg]
                  refine stepW_app1 (m := 5) (n0 := n) (σ0 := σ) k10 (fun i a1 a2 => ?_) (by omega) (by omega) (Nat.zero_le _) ?_ (fun _ σ2 a1 a2 => ?_)
                  · rw [upd_ne (by omega), so i a2]
                  · rw [lst_oL]; unfold LIM; omega
                  · rw [lst_oL] at a1 ⊢
                    have hv5 : ∀ i, i < 5 → ∀ off len s, v ≠ .ref i off len s := by
                      intro i hi off len s e
                      subst e
                      cases ho' : oL ((selN q (lst c) m ((lst o).take j)).map rwV) with
                      | none => rw [ho'] at k10; simp only [Pl] at k10; cases k10
                      | some xs => rw [ho'] at k10; obtain ⟨j, e, -, e2, -⟩ := k10; simp only [V.ref.injEq] at e; omega
                    have t : ∀ i, i < 5 → σ2 i = σ i := fun i hi => by
                      rw [a2 i (by omega) (hv5 i hi), upd_ne (by omega), so i (by omega)]
                    simp +contextual -implicitDefEqProofs (maxSteps := 2000000) only [↓wP, wQ, wQ1, wQ2, wQ3, wR, boxE, partsOf, ↓reduceIte, Nat.reduceEqDiff, Nat.reduceAdd, Nat.reduceSub, Nat.reduceLeDiff, Nat.reduceLT, Nat.reduceMul, reduceCtorEq, Int.reduceBNe, Int.reduceBEq, Int.reduceLT, Int.reduceLE, Int.reduceGT, g1, g2, k1, k2, k3, k4, hc', hsp]
                    refine ⟨by omega, by rw [t 0 (by omega)]; exact k6, by rw [t 2 (by omega)]; exact k7, by rw [t 3 (by omega)]; exact k8, _, rfl, ?_⟩
                    rw [hsn, List.map_append]
                    have e2 : oL ((selN q (lst c) m ((lst o).take j)).map rwV ++ [x].map rwV) = some ((selN q (lst c) m ((lst o).take j)).map rwV ++ [.agg [.int .u64 x.id, slV 1 i32V x.v]]) := by
                      cases selN q (lst c) m ((lst o).take j) <;> rfl
                    rw [e2]
                    exact a1
                · rw [if_neg hmem, List.append_nil] at hsn
                  have hdm : decide (p ∈ ids) = false := decide_eq_false hmem
                  rw [hdm] at hmg
                  simp +contextual -implicitDefEqProofs (maxSteps := 2000000) only [↓wP, wQ, wQ1, wQ2, wQ3, wR, boxE, partsOf, ↓reduceIte, Nat.reduceEqDiff, Nat.reduceAdd, Nat.reduceSub, Nat.reduceLeDiff, Nat.reduceLT, Nat.reduceMul, reduceCtorEq, Int.reduceBNe, Int.reduceBEq, Int.reduceLT, Int.reduceLE, Int.reduceGT, g1, g2, k1, k2, k3, k4, k9, hxo, rwV_eq, ← hσ1, sn, s2, s3, f18', hmg]
                  rw [hsn]
                  exact ⟨by omega, by rw [so 0 (by omega)]; exact k6, _, rfl, k10.loc (fun i a b => so i b) (by omega)⟩
              · intro env σ n ⟨k1, k2, k3, k4, k5, k6, k7, k8, v, k9, k10⟩ g1 g2
                rw [List.take_length] at k10
                obtain ⟨SL, hSL⟩ : ∃ SL, SL = selN q (lst c) m (lst o) := ⟨_, rfl⟩
                rw [← hSL] at k10
                have hSl : SL.length ≤ 300 := by rw [hSL]; have := selN_len q (lst c) m (lst o); omega
                have hSm : ∀ r ∈ SL, r ∈ lst o := fun r hr => by rw [hSL] at hr; exact (List.mem_filter.1 hr).1
                have r19' := r19 (oL SL) q k (by rw [lst_oL]; exact hSl) (fun r hr => by rw [lst_oL] at hr; exact hv r (hSm r hr)) hq
                have hall : SL.all okR = true := by
                  rw [List.all_eq_true]
                  intro r hr'
                  have := List.any_eq_false.1 hr _ (hSm r hr')
                  simpa [okR] using this
                have hsame : SL.all (sameD q) = true := by
                  rw [List.all_eq_true]
                  intro r hr'
                  have := List.any_eq_false.1 hsd _ (hSm r hr')
                  simp at this
                  simp [sameD]; omega
                have eE : rowsE q k SL = 0 := by unfold rowsE itE; simp [hqe, hall, hsame]
                have eL : rowsL q k SL = pL (lst o) c q k m := by
                  unfold rowsL itL pL
                  simp [hqe, hall, hsame, e1, ← hSL]
                rw [lst_oL, eE, eL] at r19'
                have hf := k10.frz (fun x hx => by rw [lst_oL] at hx; obtain ⟨y, -, rfl⟩ := List.mem_map.1 hx; simp [rwV_eq, Tr, Tr_slV]) (fun x hx c hc => by
                    rw [lst_oL] at hx; obtain ⟨y, -, rfl⟩ := List.mem_map.1 hx
                    simp only [rwV_eq, V.cells, List.mem_cons, List.not_mem_nil, or_false] at hc
                    rcases hc with rfl | rfl
                    · rfl
                    · exact Tr_slV _ _ _ _)
                rw [slV_oL] at hf
                have e : [v, V.agg [slV 1 i32V q, .int .i64 k]].mapM (frz σ 12) = some [slV 2 rwV (oL SL), .agg [slV 1 i32V q, .int .i64 k]] := by
                  have x1 : frz σ 12 (.agg [slV 1 i32V q, .int .i64 k]) = some (.agg [slV 1 i32V q, .int .i64 k]) := (frz_tr σ 12 _ (by simp [Tr, Tr_slV])).1
                  simp only [List.mapM_cons, List.mapM_nil, hf, x1]; rfl
                have f19 := callE_flat (by decide) e r19' (flat_tup2 (flat_ownH _) rfl) true n 0
                rw [thaw_hTup] at f19
                have hg := hVal_giv11 σ n (pL (lst o) c q k m)
                rw [hX] at k6
                simp +contextual -implicitDefEqProofs (maxSteps := 2000000) only [↓wP, wQ, wQ1, wQ2, wQ3, wR, boxE, partsOf, ↓reduceIte, Nat.reduceEqDiff, Nat.reduceAdd, Nat.reduceSub, Nat.reduceLeDiff, Nat.reduceLT, Nat.reduceMul, reduceCtorEq, Int.reduceBNe, Int.reduceBEq, Int.reduceLT, Int.reduceLE, Int.reduceGT, k2, k6, k9, f19]
                exact giv_tup2 hg rfl rfl
              · simp +contextual -implicitDefEqProofs (maxSteps := 2000000) only [↓wP, wQ, wQ1, wQ2, wQ3, wR, boxE, partsOf, ↓reduceIte, Nat.reduceEqDiff, Nat.reduceAdd, Nat.reduceSub, Nat.reduceLeDiff, Nat.reduceLT, Nat.reduceMul, reduceCtorEq, Int.reduceBNe, Int.reduceBEq, Int.reduceLT, Int.reduceLE, Int.reduceGT, e1', e5, e11]
                exact ⟨h1, u0, u2, u3, _, rfl, by simp [selN, oL, Pl]⟩
            · exact fun j σ n σ' n' h a b => h.frame a b
            · intro j hj σ n hjm hJ hn
              have hj2 : j < ids.length := by omega
              exact hy15 env X ids e11 j hj2 _ (by simp [hids, near]) σ n hJ hn
            · exact ⟨by omega, by rfl, by simp [upd, t0], by simp [upd], [], 0, MOk.nil, by simp [upd, ens], by simp [vw]⟩
          · rw [hsd] at f4
            have e1 : pE (lst o) c q k m = 151 := by unfold pE; simp [hc, ht, hr, hx, hsd]
            have e2 : pL (lst o) c q k m = [] := by unfold pL; rw [e1]; rfl
            rw [e1, e2]
            obtain ⟨S1, hS1⟩ : ∃ S1, S1 = upd (upd (upd Sto.empty 0 (some (Ob.row 4 [V.agg [slV 1 i32V q, V.int IntKind.i64 k, V.int IntKind.u64 ts, V.int IntKind.i64 m]]))) 1 (some (Ob.row 1 [V.int IntKind.i64 0]))) 1 (some (Ob.row 1 [V.int IntKind.i64 ↑(lst q).length])) := ⟨_, rfl⟩
            have t1 : S1 1 = some (.row 1 [.int .i64 ((lst q).length : Int)]) := by rw [hS1, upd_self]
            have t0 : S1 0 = some (Ob.row 4 [V.agg [slV 1 i32V q, V.int IntKind.i64 k, V.int IntKind.u64 ts, V.int IntKind.i64 m]]) := by rw [hS1]; simp [upd]
            have f4' := f4 S1 t1
            simp only [thaw] at f4'
            simp +contextual -implicitDefEqProofs (maxSteps := 2000000) only [↓wP, wQ, wQ1, wQ2, wQ3, wR, boxE, partsOf, ↓reduceIte, Nat.reduceEqDiff, Nat.reduceAdd, Nat.reduceSub, Nat.reduceLeDiff, Nat.reduceLT, Nat.reduceMul, reduceCtorEq, Int.reduceBNe, Int.reduceBEq, Int.reduceLT, Int.reduceLE, Int.reduceGT, f1, f2, f3, hv0, vecV_eq, hx', ← hS1, t0, t1, f4']
            exact giv_tup2 (r := .nilS) ⟨rfl, by simp [gids]⟩ rfl rfl
        · have hx' : (((lst v0).length : Int) != ((lst q).length : Int)) = true := by rw [← hd]; simp; omega
          have e1 : pE (lst o) c q k m = 151 := by unfold pE; simp [hc, ht, hr, hx]
          have e2 : pL (lst o) c q k m = [] := by unfold pL; rw [e1]; rfl
          rw [e1, e2]
          simp +contextual -implicitDefEqProofs (maxSteps := 2000000) only [↓wP, wQ, wQ1, wQ2, wQ3, wR, boxE, partsOf, ↓reduceIte, Nat.reduceEqDiff, Nat.reduceAdd, Nat.reduceSub, Nat.reduceLeDiff, Nat.reduceLT, Nat.reduceMul, reduceCtorEq, Int.reduceBNe, Int.reduceBEq, Int.reduceLT, Int.reduceLE, Int.reduceGT, f1, f2, f3, hv0, vecV_eq, hx']
          exact giv_tup2 (r := .nilS) ⟨rfl, by simp [gids]⟩ rfl rfl
      · rw [hr] at f3
        have e1 : pE (lst o) c q k m = 170 := by unfold pE; simp [hc, ht, hr]
        have e2 : pL (lst o) c q k m = [] := by unfold pL; rw [e1]; rfl
        rw [e1, e2]
        simp +contextual -implicitDefEqProofs (maxSteps := 2000000) only [↓wP, wQ, wQ1, wQ2, wQ3, wR, boxE, partsOf, ↓reduceIte, Nat.reduceEqDiff, Nat.reduceAdd, Nat.reduceSub, Nat.reduceLeDiff, Nat.reduceLT, Nat.reduceMul, reduceCtorEq, Int.reduceBNe, Int.reduceBEq, Int.reduceLT, Int.reduceLE, Int.reduceGT, f1, f2, f3]
        exact giv_tup2 (r := .nilS) ⟨rfl, by simp [gids]⟩ rfl rfl
    · have ht' : (trE c != 0) = true := by simpa using ht
      have e1 : pE (lst o) c q k m = trE c := by unfold pE; simp [hc, ht]
      have e2 : pL (lst o) c q k m = [] := by unfold pL; rw [e1, if_neg ht]
      rw [e1, e2]
      simp +contextual -implicitDefEqProofs (maxSteps := 2000000) only [↓wP, wQ, wQ1, wQ2, wQ3, wR, boxE, partsOf, ↓reduceIte, Nat.reduceEqDiff, Nat.reduceAdd, Nat.reduceSub, Nat.reduceLeDiff, Nat.reduceLT, Nat.reduceMul, reduceCtorEq, Int.reduceBNe, Int.reduceBEq, Int.reduceLT, Int.reduceLE, Int.reduceGT, f1, f2, ht']
      exact giv_tup2 (r := .nilS) ⟨rfl, by simp [gids]⟩ rfl rfl
  · have hc' : (chkE q k m != 0) = true := by simpa using hc
    have e1 : pE (lst o) c q k m = chkE q k m := by unfold pE; simp [hc]
    have e2 : pL (lst o) c q k m = [] := by unfold pL; rw [e1, if_neg hc]
    rw [e1, e2]
    simp +contextual -implicitDefEqProofs (maxSteps := 2000000) only [↓wP, wQ, wQ1, wQ2, wQ3, wR, boxE, partsOf, ↓reduceIte, Nat.reduceEqDiff, Nat.reduceAdd, Nat.reduceSub, Nat.reduceLeDiff, Nat.reduceLT, Nat.reduceMul, reduceCtorEq, Int.reduceBNe, Int.reduceBEq, Int.reduceLT, Int.reduceLE, Int.reduceGT, f1, hc']
    exact giv_tup2 (r := .nilS) ⟨rfl, by simp [gids]⟩ rfl rfl
end Go.Q.S14
end

section
/- Of all lists what flat finds: ProbeAll. -/
set_option linter.unusedSimpArgs false
set_option linter.unusedVariables false
namespace Go.Q.S14
open Go.Q Go.Sort
theorem r20 (a b : Option (List Hit)) (hl : (lst a).length < 9223372036854775808) : res T 20 [slV 2 hitV a, slV 2 hitV b] = some (.bool (decide (lst a = lst b))) := by
  refine run_res (run_pure (fn := g20) rfl rfl (by decide) ?_)
  simp only [g20, b20, oO, oN, mV, lD, gO, pP, qQ, cI, aR]
  have h42 := fun fs σ n lk => callE_tr (T := T) (by decide) (r42 a b hl) (by simp [Tr, Tr_slV]) rfl fs σ n lk
  simp +contextual -implicitDefEqProofs (maxSteps := 2000000) only [↓wP, wQ, wQ1, wQ2, wQ3, wR, boxE, partsOf, ↓reduceIte, Nat.reduceEqDiff, Nat.reduceAdd, Nat.reduceSub, Nat.reduceLeDiff, Nat.reduceLT, Nat.reduceMul, reduceCtorEq, Int.reduceBNe, Int.reduceBEq, Int.reduceLT, Int.reduceLE, Int.reduceGT, h42]
theorem f20 {σ : Sto} {v w : V} {a b : List Hit} (ha : Hf σ v a) (hb : Hf σ w b) (hl : a.length < 9223372036854775808) (fs : Bool) (n lk : Nat) : callE T fs 20 [v, w] σ n lk = some (.bool (decide (a = b)), σ, n) := by
  obtain ⟨o, rfl, h1⟩ := ha
  obtain ⟨q, rfl, h2⟩ := hb
  have e : [v, w].mapM (frz σ 12) = some [slV 2 hitV o, slV 2 hitV q] := by simp only [List.mapM_cons, List.mapM_nil, h1, h2]; rfl
  rw [callE_flat (by decide) e (r20 o q hl) rfl]; rfl
theorem hVal_Hf {σ : Sto} {n : Nat} {l : List Hit} (h : l ≠ [] → σ n = some (.row 2 (hs l))) : Hf σ (hVal n l) l := ⟨optH l, lst_optH l, hVal_frz h 9⟩
theorem hSto_row {σ : Sto} {n : Nat} {l : List Hit} (h : l ≠ []) : hSto σ n l n = some (.row 2 (hs l)) := by unfold hSto; rw [if_neg h, upd_self]
theorem f15 (o : Option (List Rw)) (c : Option (List Vc)) (q : Vc) (k ts m : Int) (hl : (lst o).length ≤ 300) (hv : ∀ r ∈ lst o, Sm r.v) (hcl : (lst c).length ≤ 7) (hcv : ∀ v ∈ lst c, Sm v) (hq : Sm q) (fs : Bool) (σ : Sto) (n lk : Nat) :
    callE T fs 15 [slV 2 rwV o, slV 1 vecV c, .agg [slV 1 i32V q, .int .i64 k, .int .u64 ts, .int .i64 m]] σ n lk = some (.tup [hVal n (pL (lst o) c q k m), .int .i64 (pE (lst o) c q k m)], hSto σ n (pL (lst o) c q k m), hN n (pL (lst o) c q k m)) := by
  have e : [slV 2 rwV o, slV 1 vecV c, V.agg [slV 1 i32V q, .int .i64 k, .int .u64 ts, .int .i64 m]].mapM (frz σ 12) = some [slV 2 rwV o, slV 1 vecV c, .agg [slV 1 i32V q, .int .i64 k, .int .u64 ts, .int .i64 m]] := by
    have x1 : frz σ 12 (.agg [slV 1 i32V q, .int .i64 k, .int .u64 ts, .int .i64 m]) = some (.agg [slV 1 i32V q, .int .i64 k, .int .u64 ts, .int .i64 m]) := (frz_tr σ 12 _ (by simp [Tr, Tr_slV])).1
    simp only [List.mapM_cons, List.mapM_nil, frz_slV, x1]; rfl
  rw [callE_flat (by decide) e (r15 o c q k ts m hl hv hcl hcv hq) (flat_tup2 (flat_ownH _) rfl), thaw_hTup]
theorem f19 (o : Option (List Rw)) (q : Vc) (k : Int) (hl : (lst o).length ≤ 300) (hv : ∀ r ∈ lst o, (lst r.v).length < 9223372036854775808) (hq : (lst q).length < 9223372036854775808) (fs : Bool) (σ : Sto) (n lk : Nat) :
    callE T fs 19 [slV 2 rwV o, .agg [slV 1 i32V q, .int .i64 k]] σ n lk = some (.tup [hVal n (rowsL q k (lst o)), .int .i64 (rowsE q k (lst o))], hSto σ n (rowsL q k (lst o)), hN n (rowsL q k (lst o))) := by
  have e : [slV 2 rwV o, V.agg [slV 1 i32V q, .int .i64 k]].mapM (frz σ 12) = some [slV 2 rwV o, .agg [slV 1 i32V q, .int .i64 k]] := by
    have x1 : frz σ 12 (.agg [slV 1 i32V q, .int .i64 k]) = some (.agg [slV 1 i32V q, .int .i64 k]) := (frz_tr σ 12 _ (by simp [Tr, Tr_slV])).1
    simp only [List.mapM_cons, List.mapM_nil, frz_slV, x1]; rfl
  rw [callE_flat (by decide) e (r19 o q k hl hv hq) (flat_tup2 (flat_ownH _) rfl), thaw_hTup]
theorem p0 {o : List Rw} {c : Option (List Vc)} {q : Vc} {k m : Int} (h : pE o c q k m = 0) : chkE q k m = 0 ∧ trE c = 0 ∧ o.any (fun r => !okV r.v) = false ∧ dm c = (lst q).length ∧ o.any (fun r => ((lst r.v).length : Int) != ((lst q).length : Int)) = false := by
  unfold pE at h
  by_cases h1 : chkE q k m = 0
  · rw [if_neg (by omega)] at h
    by_cases h2 : trE c = 0
    · rw [if_neg (by omega)] at h
      cases h3 : o.any (fun r => !okV r.v)
      · rw [h3, if_neg (by simp)] at h
        by_cases h4 : dm c = (lst q).length
        · cases h5 : o.any (fun r => ((lst r.v).length : Int) != ((lst q).length : Int))
          · exact ⟨h1, h2, rfl, h4, rfl⟩
          · rw [if_pos (.inr h5)] at h; cases h
        · rw [if_pos (.inl h4)] at h; cases h
      · rw [h3, if_pos rfl] at h; cases h
    · rw [if_pos h2] at h; exact absurd h h2
  · rw [if_pos h1] at h; exact absurd h h1
theorem chk_m {q : Vc} {k m : Int} (m' : Int) (h : chkE q k m = 0) (h1 : 1 ≤ m') (h2 : m' ≤ 1048576) : chkE q k m' = 0 := by
  obtain ⟨-, ho, k1, k2, -⟩ := chk0 h
  unfold chkE askE
  rw [if_neg (by omega), if_neg (by omega), if_neg (by rw [if_neg (by omega), if_neg (by omega)]; simp), ho]; rfl
theorem p_m {o : List Rw} {c : Option (List Vc)} {q : Vc} {k m : Int} (m' : Int) (h : pE o c q k m = 0) (h1 : 1 ≤ m') (h2 : m' ≤ 1048576) : pE o c q k m' = 0 := by
  obtain ⟨a1, a2, a3, a4, a5⟩ := p0 h
  unfold pE
  simp [chk_m m' a1 h1 h2, a2, a3, a4, a5]
theorem tr0 {c : Option (List Vc)} (h : trE c = 0) : lst c ≠ [] ∧ cents c = true := by
  have hne : lst c ≠ [] := by intro h'; unfold trE at h; rw [if_pos h'] at h; cases h
  refine ⟨hne, ?_⟩
  unfold trE at h; rw [if_neg hne] at h
  cases hc : cents c
  · rw [hc] at h; cases h
  · rfl
theorem nb_lt' (v : Vc) (c : List Vc) (hc : c ≠ []) : nb v c c.length < c.length := by
  have hp : 0 < c.length := List.length_pos_iff.2 hc
  unfold nb
  rcases bst_spec [] (dis v c) c.length with ⟨h1, h2⟩ | ⟨b, h1, h2, -, -⟩
  · have := h2 0 hp; simp at this
  · rw [h1]; simpa using h2
theorem selN_all (q : Vc) (c : List Vc) (m : Int) (l : List Rw) (hc : c ≠ []) (hm : c.length ≤ m.toNat) : selN q c m l = l := by
  unfold selN
  rw [List.filter_eq_self]
  intro r hr
  rw [decide_eq_true_eq]
  unfold near
  rw [List.take_of_length_le (by rw [srt_len, ctH_len]; exact hm)]
  exact List.mem_map.2 ⟨_, (srt_perm _).mem_iff.2 (ct_mem q c _ (nb_lt' r.v c hc)), rfl⟩
theorem rows_p {o : List Rw} {c : Option (List Vc)} {q : Vc} {k m : Int} (h : pE o c q k m = 0) (hm : (lst c).length ≤ m.toNat) : rowsE q k o = 0 ∧ rowsL q k o = pL o c q k m := by
  obtain ⟨a1, a2, a3, a4, a5⟩ := p0 h
  obtain ⟨hqe, -, -, -, -⟩ := chk0 a1
  have hall : o.all okR = true := by
    rw [List.all_eq_true]
    intro r hr'
    have := List.any_eq_false.1 a3 _ hr'
    simpa [okR] using this
  have hsame : o.all (sameD q) = true := by
    rw [List.all_eq_true]
    intro r hr'
    have := List.any_eq_false.1 a5 _ hr'
    simp at this
    simp [sameD]; omega
  refine ⟨by unfold rowsE itE; simp [hqe, hall, hsame], ?_⟩
  unfold rowsL itL pL
  rw [selN_all q (lst c) m o (tr0 a2).1 hm]
  simp [hqe, hall, hsame, h]
theorem r6 (x : Option (List Rw)) (y : Option (List Vc)) (p : Vc) (k ts m : Int) (hx : (lst x).length < 4611686018427387904) (hy : (lst y).length < 4611686018427387904) (hxv : ∀ r ∈ lst x, Sm r.v) (hyv : ∀ v ∈ lst y, Sm v) (hp : Sm p) :
    res T 6 [slV 2 rwV x, slV 1 vecV y, .agg [slV 1 i32V p, .int .i64 k, .int .u64 ts, .int .i64 m]] = some (.bool true) := by
  refine run_res (run_pure (fn := g6) rfl rfl (by decide) ?_)
  simp only [g6, b6, oO, oN, mV, lD, gO, pP, qQ, cI, aR]
  have c13 := f13 x hx hxv
  have c8 := f8 y hy hyv
  have c14 := f14 p k ts m hp
  obtain ⟨l, hl⟩ : ∃ l, l = cutL x := ⟨_, rfl⟩
  obtain ⟨c, hc⟩ : ∃ c, c = cutV y := ⟨_, rfl⟩
  obtain ⟨q, hq⟩ : ∃ q, q = cut p := ⟨_, rfl⟩
  have hll : (lst l).length ≤ 60 := by rw [hl]; exact cutL_len x
  have hlv : ∀ r ∈ lst l, Sm r.v := by rw [hl]; exact cutL_sm x
  have hcl : (lst c).length ≤ 7 := by rw [hc]; exact cutV_len y
  have hcv : ∀ v ∈ lst c, Sm v := by rw [hc]; exact cutV_sm y
  have hqs : Sm q := by rw [hq]; exact cut_sm p
  rw [← hl] at c13
  rw [← hc] at c8
  rw [← hq] at c14
  have hB := big_le
  obtain ⟨S0, hS0⟩ : ∃ S0, S0 = upd Sto.empty 0 (some (Ob.row 4 [V.agg [slV 1 i32V p, V.int IntKind.i64 k, V.int IntKind.u64 ts, V.int IntKind.i64 m]])) := ⟨_, rfl⟩
  have t0 : S0 0 = some (Ob.row 4 [V.agg [slV 1 i32V p, V.int IntKind.i64 k, V.int IntKind.u64 ts, V.int IntKind.i64 m]]) := by rw [hS0, upd_self]
  have y0 : ∀ hid, hide S0 1 1 hid 0 = S0 0 := fun hid => hide_low _ _ _ _ (by omega) (Nat.le_refl _)
  have u1 : (2 ≤ 1 + BIG) = True := by simp; omega
  obtain ⟨n1, hn1⟩ : ∃ n1, n1 = 1 + BIG := ⟨_, rfl⟩
  have hn1' : 2 ≤ n1 := by omega
  have u2 : (2 ≤ n1) = True := by simp; exact hn1'
  obtain ⟨M, hM⟩ : ∃ M, M = (if ((lst c).length : Int) < 1 then (1 : Int) else ((lst c).length : Int)) := ⟨_, rfl⟩
  obtain ⟨S1, hS1⟩ : ∃ S1, S1 = (upd (upd (upd S0 1 (some (Ob.row 4 [V.agg [V.nilS, V.int IntKind.i64 0, V.int IntKind.u64 0, V.int IntKind.i64 0]]))) 1
          (some (Ob.row 4 [V.agg [slV 1 i32V q, V.int IntKind.i64 k, V.int IntKind.u64 ts, V.int IntKind.i64 m]])))
        1 (some (Ob.row 4 [V.agg [slV 1 i32V q, V.int IntKind.i64 k, V.int IntKind.u64 ts, V.int IntKind.i64 M]]))) := ⟨_, rfl⟩
  have t1 : S1 1 = some (Ob.row 4 [V.agg [slV 1 i32V q, V.int IntKind.i64 k, V.int IntKind.u64 ts, V.int IntKind.i64 M]]) := by rw [hS1, upd_self]
  have c15 := f15 l c q k ts M (by omega) hlv hcl hcv hqs true S1 n1 0
  by_cases he : pE (lst l) c q k M = 0
  · obtain ⟨a1, a2, a3, a4, a5⟩ := p0 he
    obtain ⟨hne, hce⟩ := tr0 a2
    have hp0 : 0 < (lst c).length := List.length_pos_iff.2 hne
    have hM' : M = ((lst c).length : Int) := by rw [hM, if_neg (by omega)]
    obtain ⟨e1, e2⟩ := rows_p (k := k) he (by omega)
    have he3 := p_m 1048576 he (by decide) (by decide)
    obtain ⟨-, e4⟩ := rows_p (k := k) he3 (by omega)
    rw [e2] at e4
    obtain ⟨L, hL⟩ : ∃ L, L = pL (lst l) c q k M := ⟨_, rfl⟩
    rw [he, ← hL] at c15
    have hLl : L.length < 9223372036854775808 := by
      rw [hL]; unfold pL; rw [if_pos he, fst_len, List.length_map]
      have := selN_len q (lst c) M (lst l); omega
    obtain ⟨S2, hS2⟩ : ∃ S2, S2 = hSto S1 n1 L := ⟨_, rfl⟩
    obtain ⟨n2, hn2⟩ : ∃ n2, n2 = hN n1 L := ⟨_, rfl⟩
    have hn12 : n1 ≤ n2 := by rw [hn2]; exact hN_le _ _
    have t2 : S2 1 = some (Ob.row 4 [V.agg [slV 1 i32V q, V.int IntKind.i64 k, V.int IntKind.u64 ts, V.int IntKind.i64 M]]) := by rw [hS2, hSto_at _ _ _ (by omega), t1]
    have t2r : L ≠ [] → S2 n1 = some (.row 2 (hs L)) := fun h => by rw [hS2]; exact hSto_row h
    have n2r : L ≠ [] → n1 < n2 := fun h => by rw [hn2]; unfold hN; rw [if_neg h]; omega
    rw [← hS2, ← hn2] at c15
    have c19 := f19 l q k (by omega) (fun r hr => hlv r hr) hqs true S2 n2 0
    rw [e1, e2, ← hL] at c19
    obtain ⟨S3, hS3⟩ : ∃ S3, S3 = hSto S2 n2 L := ⟨_, rfl⟩
    obtain ⟨n3, hn3⟩ : ∃ n3, n3 = hN n2 L := ⟨_, rfl⟩
    have hn23 : n2 ≤ n3 := by rw [hn3]; exact hN_le _ _
    have t3 : S3 1 = some (Ob.row 4 [V.agg [slV 1 i32V q, V.int IntKind.i64 k, V.int IntKind.u64 ts, V.int IntKind.i64 M]]) := by rw [hS3, hSto_at _ _ _ (by omega), t2]
    have t3a : L ≠ [] → S3 n1 = some (.row 2 (hs L)) := fun h => by rw [hS3, hSto_at _ _ _ (n2r h)]; exact t2r h
    have t3b : L ≠ [] → S3 n2 = some (.row 2 (hs L)) := fun h => by rw [hS3]; exact hSto_row h
    have n3r : L ≠ [] → n2 < n3 := fun h => by rw [hn3]; unfold hN; rw [if_neg h]; omega
    rw [← hS3, ← hn3] at c19
    obtain ⟨S4, hS4⟩ : ∃ S4, S4 = upd S3 1 (some (Ob.row 4 [V.agg [slV 1 i32V q, V.int IntKind.i64 k, V.int IntKind.u64 ts, V.int IntKind.i64 1048576]])) := ⟨_, rfl⟩
    have t4 : S4 1 = some (Ob.row 4 [V.agg [slV 1 i32V q, V.int IntKind.i64 k, V.int IntKind.u64 ts, V.int IntKind.i64 1048576]]) := by rw [hS4, upd_self]
    have c15b := f15 l c q k ts 1048576 (by omega) hlv hcl hcv hqs true S4 n3 0
    rw [he3, ← e4, ← hL] at c15b
    obtain ⟨S5, hS5⟩ : ∃ S5, S5 = hSto S4 n3 L := ⟨_, rfl⟩
    obtain ⟨n5, hn5⟩ : ∃ n5, n5 = hN n3 L := ⟨_, rfl⟩
    have t5a : L ≠ [] → S5 n1 = some (.row 2 (hs L)) := fun h => by rw [hS5, hSto_at _ _ _ (by have := n2r h; omega), hS4, upd_ne (by omega)]; exact t3a h
    have t5b : L ≠ [] → S5 n2 = some (.row 2 (hs L)) := fun h => by rw [hS5, hSto_at _ _ _ (n3r h), hS4, upd_ne (by omega)]; exact t3b h
    have t5c : L ≠ [] → S5 n3 = some (.row 2 (hs L)) := fun h => by rw [hS5]; exact hSto_row h
    rw [← hS5, ← hn5] at c15b
    have g1 := f20 (hVal_Hf t5a) (hVal_Hf t5b) hLl true n5 0
    have g2 := f20 (hVal_Hf t5c) (hVal_Hf t5b) hLl true n5 0
    simp +contextual -implicitDefEqProofs (maxSteps := 2000000) only [↓wP, wQ, wQ1, wQ2, wQ3, wR, boxE, partsOf, ↓reduceIte, Nat.reduceEqDiff, Nat.reduceAdd, Nat.reduceSub, Nat.reduceLeDiff, Nat.reduceLT, Nat.reduceMul, reduceCtorEq, Int.reduceBNe, Int.reduceBEq, Int.reduceLT, Int.reduceLE, Int.reduceGT, f7, c13, c8, c14, ← hS0, t0, y0, u1, mg1, Nat.mul_one, ← hn1, u2, ← hM, ← hS1, t1, c15, t2, c19, t3, ← hS4, t4, c15b, g1, g2]
  · have hd : (pE (lst l) c q k M != 0) = true := by simpa using he
    have eL : pL (lst l) c q k M = [] := by unfold pL; rw [if_neg he]
    rw [eL] at c15
    have hle := hVal_len n1 []
    simp +contextual -implicitDefEqProofs (maxSteps := 2000000) only [↓wP, wQ, wQ1, wQ2, wQ3, wR, boxE, partsOf, ↓reduceIte, Nat.reduceEqDiff, Nat.reduceAdd, Nat.reduceSub, Nat.reduceLeDiff, Nat.reduceLT, Nat.reduceMul, reduceCtorEq, Int.reduceBNe, Int.reduceBEq, Int.reduceLT, Int.reduceLE, Int.reduceGT, f7, c13, c8, c14, ← hS0, t0, y0, u1, mg1, Nat.mul_one, ← hn1, u2, ← hM, ← hS1, t1, c15, hd, hle]
    rfl
end Go.Q.S14
end

section
/- Each hit is of a row of the nearest lists, at its true distance: ProbeTrue. -/
set_option linter.unusedSimpArgs false
set_option linter.unusedVariables false
namespace Go.Q.S14
open Go.Q Go.Sort
def i64' (x : Int) : V := .int .i64 x
theorem keyHit : KeyOk (.agg [.int, .int]) hitV := by
  intro a b
  simp only [eqKey, hitV, eqCells, eqCell, if_true, Option.bind_some, Option.map_some, Bool.and_true, Option.some.injEq]
  obtain ⟨a1, a2⟩ := a
  obtain ⟨b1, b2⟩ := b
  simp only [Hit.mk.injEq]
  by_cases h1 : a1 = b1 <;> by_cases h2 : a2 = b2 <;> simp [h1, h2]
def cnt (l : List Hit) (h : Hit) : Int := (l.count h : Nat)
theorem cnt_step (l : List Hit) (j : Nat) (hj : j < l.length) (h : Hit) : cnt (l.take (j + 1)) h = cnt (l.take j) h + if h = l[j] then 1 else 0 := by
  unfold cnt
  rw [← List.take_append_getElem hj, List.count_append, List.count_singleton]
  by_cases e : h = l[j]
  · subst e; simp
  · have : ¬ l[j] = h := fun x => e x.symm
    simp [e, this]
theorem cnt_le (k : Nat) (l : List Hit) (h : Hit) (j : Nat) : cnt ((fst' k l).take j) h ≤ cnt l h := by
  unfold cnt
  have h1 : ((fst' k l).take j).count h ≤ (srt l).count h := ((List.take_sublist _ _).trans (List.take_sublist _ _)).count_le h
  rw [(srt_perm l).count_eq h] at h1
  omega
theorem cnt_nn (l : List Hit) (h : Hit) : 0 ≤ cnt l h := by unfold cnt; omega
theorem cnt_len (l : List Hit) (h : Hit) : cnt l h ≤ l.length := by unfold cnt; have := List.count_le_length (a := h) (l := l); omega
theorem cnt_snoc (l : List Hit) (x h : Hit) : cnt (l ++ [x]) h = cnt l h + if h = x then 1 else 0 := by
  unfold cnt
  rw [List.count_append, List.count_singleton]
  by_cases e : h = x
  · subst e; simp
  · have : ¬ x = h := fun y => e y.symm
    simp [e, this]
theorem near_ord (q : Vc) (c : List Vc) (m : Int) {L : List Int} (hL : L = near q c m) (i : Nat) (h : i + 1 < L.length) : ∃ a b : Nat, a < c.length ∧ b < c.length ∧ L[i]'(by omega) = a ∧ L[i + 1] = b ∧ (dis q c a < dis q c b ∨ (dis q c a = dis q c b ∧ a ≤ b)) := by
  subst hL
  have hl : i + 1 < (srt (ctH q c 0)).length := by
    unfold near at h; rw [List.length_map, List.length_take] at h; omega
  have hm1 := List.getElem_mem (l := srt (ctH q c 0)) (n := i) (by omega)
  have hm2 := List.getElem_mem (l := srt (ctH q c 0)) (n := i + 1) (by omega)
  obtain ⟨a, ha, ea⟩ := ct_get ((srt_perm _).mem_iff.1 hm1)
  obtain ⟨b, hb, eb⟩ := ct_get ((srt_perm _).mem_iff.1 hm2)
  have ho := List.pairwise_iff_getElem.1 (srt_srt (ctH q c 0)) i (i + 1) (by omega) hl (by omega)
  rw [ea, eb] at ho
  refine ⟨a, b, ha, hb, by simp [near, ea], by simp [near, eb], ?_⟩
  unfold ahead at ho
  simp only [Bool.or_eq_false_iff, Bool.and_eq_false_iff, decide_eq_false_iff_not, beq_eq_false_iff_ne] at ho
  omega
theorem iVal_len (n : Nat) (l : List Int) : lenE (iVal n l) = some (.int .i64 (l.length : Int)) := by
  unfold iVal
  split
  · rename_i h; rw [h, lenE_nil]; rfl
  · rw [lenE_ref]
theorem iSto_at (σ : Sto) (n : Nat) (l : List Int) {i : Nat} (h : i < n) : iSto σ n l i = σ i := by
  unfold iSto; split
  · rfl
  · rw [upd_ne (by omega)]
theorem f17t {a b : Vc} (h : Two a b) (ha : Sm a) (hb : Sm b) (fs : Bool) (σ : Sto) (n lk : Nat) : callE T fs 17 [slV 1 i32V a, slV 1 i32V b] σ n lk = some (.tup [.int .u64 (distI a b), .int .i64 0], σ, n) := by
  have hva : vAll a b = 0 := by unfold vAll; rw [h.ha, h.hb]; simp [h.hl]
  have f := f17 a b ha hb fs σ n lk
  have e1 : disE a b = 0 := hva
  have e2 : disV a b = distI a b := by unfold disV; rw [if_pos hva]
  rw [e1, e2] at f
  exact f
theorem r5 (x : Option (List Rw)) (y : Option (List Vc)) (p : Vc) (k ts m : Int) (hx : (lst x).length < 4611686018427387904) (hy : (lst y).length < 4611686018427387904) (hxv : ∀ r ∈ lst x, Sm r.v) (hyv : ∀ v ∈ lst y, Sm v) (hp : Sm p) :
    res T 5 [slV 2 rwV x, slV 1 vecV y, .agg [slV 1 i32V p, .int .i64 k, .int .u64 ts, .int .i64 m]] = some (.bool true) := by
  refine run_res (run_pure (fn := g5) rfl rfl (by decide) ?_)
  simp only [g5, b5, oO, oN, mV, lD, gO, pP, qQ, cI, aR]
  have c13 := f13 x hx hxv
  have c8 := f8 y hy hyv
  have c14 := f14 p k ts m hp
  obtain ⟨l, hl⟩ : ∃ l, l = cutL x := ⟨_, rfl⟩
  obtain ⟨c, hc⟩ : ∃ c, c = cutV y := ⟨_, rfl⟩
  obtain ⟨q, hq⟩ : ∃ q, q = cut p := ⟨_, rfl⟩
  have hll : (lst l).length ≤ 60 := by rw [hl]; exact cutL_len x
  have hlv : ∀ r ∈ lst l, Sm r.v := by rw [hl]; exact cutL_sm x
  have hcl : (lst c).length ≤ 7 := by rw [hc]; exact cutV_len y
  have hcv : ∀ v ∈ lst c, Sm v := by rw [hc]; exact cutV_sm y
  have hqs : Sm q := by rw [hq]; exact cut_sm p
  rw [← hl] at c13
  rw [← hc] at c8
  rw [← hq] at c14
  clear hl hc hq
  have hB := big_le
  obtain ⟨S0, hS0⟩ : ∃ S0, S0 = upd Sto.empty 0 (some (Ob.row 4 [V.agg [slV 1 i32V p, V.int IntKind.i64 k, V.int IntKind.u64 ts, V.int IntKind.i64 m]])) := ⟨_, rfl⟩
  have t0 : S0 0 = some (Ob.row 4 [V.agg [slV 1 i32V p, V.int IntKind.i64 k, V.int IntKind.u64 ts, V.int IntKind.i64 m]]) := by rw [hS0, upd_self]
  have y0 : ∀ hid, hide S0 1 1 hid 0 = S0 0 := fun hid => hide_low _ _ _ _ (by omega) (Nat.le_refl _)
  have u1 : (2 ≤ 1 + BIG) = True := by simp; omega
  obtain ⟨n1, hn1⟩ : ∃ n1, n1 = 1 + BIG := ⟨_, rfl⟩
  have hn1' : 2 ≤ n1 := by omega
  have u2 : (2 ≤ n1) = True := by simp; exact hn1'
  obtain ⟨S1, hS1⟩ : ∃ S1, S1 = (upd (upd S0 1 (some (Ob.row 4 [V.agg [V.nilS, V.int IntKind.i64 0, V.int IntKind.u64 0, V.int IntKind.i64 0]]))) 1
          (some (Ob.row 4 [V.agg [slV 1 i32V q, V.int IntKind.i64 k, V.int IntKind.u64 ts, V.int IntKind.i64 m]]))) := ⟨_, rfl⟩
  have t1 : S1 1 = some (Ob.row 4 [V.agg [slV 1 i32V q, V.int IntKind.i64 k, V.int IntKind.u64 ts, V.int IntKind.i64 m]]) := by rw [hS1, upd_self]
  have c15 := f15 l c q k ts m (by omega) hlv hcl hcv hqs true S1 n1 0
  obtain ⟨M, hM⟩ : ∃ M, M = pL (lst l) c q k m := ⟨_, rfl⟩
  rw [← hM] at c15
  have hle := hVal_len n1 M
  obtain ⟨S2, hS2⟩ : ∃ S2, S2 = hSto S1 n1 M := ⟨_, rfl⟩
  obtain ⟨n2, hn2⟩ : ∃ n2, n2 = hN n1 M := ⟨_, rfl⟩
  have hn12 : n1 ≤ n2 := by rw [hn2]; exact hN_le _ _
  have t2 : S2 1 = some (Ob.row 4 [V.agg [slV 1 i32V q, V.int IntKind.i64 k, V.int IntKind.u64 ts, V.int IntKind.i64 m]]) := by rw [hS2, hSto_at _ _ _ (by omega), t1]
  have t2r : M ≠ [] → S2 n1 = some (.row 2 (hs M)) := fun h => by rw [hS2]; exact hSto_row h
  have n2r : M ≠ [] → n1 < n2 := fun h => by rw [hn2]; unfold hN; rw [if_neg h]; omega
  rw [← hS2, ← hn2] at c15
  by_cases he : pE (lst l) c q k m = 0
  · obtain ⟨a1, a2, a3, a4, a5⟩ := p0 he
    obtain ⟨hqe, oq, hk1, hk2, hm1⟩ := chk0 a1
    obtain ⟨hne, hce⟩ := tr0 a2
    obtain ⟨kn, rfl⟩ : ∃ kn : Nat, k = (kn : Int) := ⟨k.toNat, by omega⟩
    have htwo := nr_two hce oq a4
    have hM' : M = fst' kn ((selN q (lst c) m (lst l)).map (hitQ q)) := by rw [hM]; unfold pL; rw [if_pos he]; rfl
    have hMk : ¬ ((kn : Int) < (M.length : Int)) := by rw [hM', fst_len]; omega
    have hMl : M.length ≤ 16 := by omega
    have hnr : nrE c q m = 0 := by
      have hask : askE m = 0 := by
        unfold chkE at a1
        rw [if_neg (by omega), if_neg (by omega)] at a1
        by_cases h : askE m = 0
        · exact h
        · rw [if_pos h] at a1; exact a1
      unfold nrE cnE
      rw [if_neg (by omega), oq, if_pos rfl, if_neg (by rw [a2]; simp), if_pos a4]
    obtain ⟨NL, hNL, c10⟩ := f10 c q m hcl hcv hqs true S2 n2 0
    rw [if_pos hnr] at hNL
    rw [hnr] at c10
    have hNl : NL.length = min m.toNat (lst c).length := by rw [hNL]; exact near_len _ _ _ (by omega)
    have hmin : (if ((lst c).length : Int) < m then ((lst c).length : Int) else m) = (NL.length : Int) := by split <;> omega
    have hle2 := iVal_len n2 NL
    obtain ⟨S3, hS3⟩ : ∃ S3, S3 = iSto S2 n2 NL := ⟨_, rfl⟩
    obtain ⟨n3, hn3⟩ : ∃ n3, n3 = iN n2 NL := ⟨_, rfl⟩
    have hn23 : n2 ≤ n3 := by rw [hn3]; unfold iN; split <;> omega
    have t3 : S3 1 = some (Ob.row 4 [V.agg [slV 1 i32V q, V.int IntKind.i64 (kn : Int), V.int IntKind.u64 ts, V.int IntKind.i64 m]]) := by rw [hS3, iSto_at _ _ _ (by omega), t2]
    have t3m : M ≠ [] → S3 n1 = some (.row 2 (hs M)) := fun h => by rw [hS3, iSto_at _ _ _ (n2r h)]; exact t2r h
    have t3n : NL ≠ [] → S3 n2 = some (.row 1 (NL.map iV)) := fun h => by rw [hS3]; unfold iSto; rw [if_neg h, upd_self]
    have n3r : NL ≠ [] → n2 < n3 := fun h => by rw [hn3]; unfold iN; rw [if_neg h]; omega
    rw [← hS3, ← hn3] at c10
    rw [he] at c15
    simp +contextual -implicitDefEqProofs (maxSteps := 2000000) only [↓wP, wQ, wQ1, wQ2, wQ3, wR, boxE, partsOf, ↓reduceIte, Nat.reduceEqDiff, Nat.reduceAdd, Nat.reduceSub, Nat.reduceLeDiff, Nat.reduceLT, Nat.reduceMul, reduceCtorEq, Int.reduceBNe, Int.reduceBEq, Int.reduceLT, Int.reduceLE, Int.reduceGT, f7, c13, c8, c14, ← hS0, t0, y0, u1, mg1, Nat.mul_one, ← hn1, u2, ← hS1, t1, c15, hle, hMk, t2, c10, hle2, t3, hmin, bne_self_eq_false]
    obtain ⟨K, hK⟩ : ∃ K : Sto → Nat → Prop, K = fun σ n => n3 < n ∧ σ 1 = some (Ob.row 4 [V.agg [slV 1 i32V q, V.int IntKind.i64 (kn : Int), V.int IntKind.u64 ts, V.int IntKind.i64 m]]) ∧ (M ≠ [] → σ n1 = some (.row 2 (hs M))) ∧ (NL ≠ [] → σ n2 = some (.row 1 (NL.map iV))) := ⟨_, rfl⟩
    have hKf : ∀ σ σ' n n', K σ n → n ≤ n' → (∀ i, i < n3 → σ' i = σ i) → K σ' n' := by
      intro σ σ' n n' h hn hs
      rw [hK] at h ⊢
      obtain ⟨b1, b2, b3, b4⟩ := h
      exact ⟨by omega, by rw [hs 1 (by omega)]; exact b2, fun h => by rw [hs n1 (by have := n2r h; omega)]; exact b3 h, fun h => by rw [hs n2 (n3r h)]; exact b4 h⟩
    refine WC_cutB (fun env σ n => env 7 = slV 2 rwV l ∧ env 8 = slV 1 vecV c ∧ env 9 = .ptr 1 4 0 0 ∧ env 10 = hVal n1 M ∧ env 13 = .mp n3 ∧ K σ n ∧
      ∃ Lm clk, MOk Lm clk ∧ σ n3 = some (.map (ens iV bV Lm) clk) ∧ ∀ x, (vw Lm x).getD false = decide (x ∈ NL)) ?_ ?_
    · refine WC_for NL.length 0 (fun (j : Nat) env σ n => env 7 = slV 2 rwV l ∧ env 8 = slV 1 vecV c ∧ env 9 = .ptr 1 4 0 0 ∧ env 10 = hVal n1 M ∧ env 12 = iVal n2 NL ∧ env 13 = .mp n3 ∧ env 84 = iVal n2 NL ∧ K σ n ∧
        ∃ Lm clk, MOk Lm clk ∧ σ n3 = some (.map (ens iV bV Lm) clk) ∧ ∀ x, (vw Lm x).getD false = decide (x ∈ NL.take j)) (by omega) (by decide) (by decide) (fun _ _ => rfl) (fun _ _ _ => rfl) ?_ ?_ _ _ _ rfl rfl ?_
      · intro j env σ n hj e1 e2 ⟨g1, g2, g3, g4, g5, g6, g7, g8, Lm, clk, m1, m2, m3⟩
        simp only [vl_tmp] at e2
        have g8' := g8
        rw [hK] at g8'
        obtain ⟨b1, b2, b3, b4⟩ := g8'
        have nN : NL ≠ [] := by intro h; rw [h] at hj; simp at hj
        have vN : iVal n2 NL = .ref n2 0 NL.length 1 := by unfold iVal; rw [if_neg nN]
        rw [vN] at g5 g7
        have rN := b4 nN
        have ht : NL.take (j + 1) = NL.take j ++ [NL[j]] := (List.take_append_getElem hj).symm
        have hx : (NL.map iV)[j]? = some (.int .i64 NL[j]) := by simp [iV, hj]
        have n23 := n3r nN
        have pu := mupd_ens (ke := iV) (ve := bV) (lk := 0) keyInt m1 m2 (Nat.zero_le _) NL[j] true n
        simp only [iV, bV] at pu
        have hnew : ∀ y, (vw (mput Lm clk NL[j] true).1 y).getD false = decide (y ∈ NL.take (j + 1)) := by
          intro y
          rw [vw_mput, ht]
          by_cases e : y = NL[j]
          · rw [if_pos e]
            have : y ∈ NL.take j ++ [NL[j]] := List.mem_append.2 (.inr (by rw [e]; exact List.mem_singleton.2 rfl))
            rw [decide_eq_true this]; rfl
          · rw [if_neg e, m3 y]
            have : (y ∈ NL.take j ++ [NL[j]]) ↔ (y ∈ NL.take j) := by rw [List.mem_append, List.mem_singleton]; simp only [e, or_false]
            exact decide_eq_decide.2 this.symm
        obtain ⟨S5, hS5⟩ : ∃ S5, S5 = upd σ n3 (some (.map (ens iV bV (mput Lm clk NL[j] true).1) (mput Lm clk NL[j] true).2)) := ⟨_, rfl⟩
        have hK5 : K S5 n := hKf σ S5 n n g8 (Nat.le_refl _) (fun i hi => by rw [hS5, upd_ne (by omega)])
        have q1 : S5 1 = some (Ob.row 4 [V.agg [slV 1 i32V q, V.int IntKind.i64 (kn : Int), V.int IntKind.u64 ts, V.int IntKind.i64 m]]) := by rw [hS5, upd_ne (by omega)]; exact b2
        have q2 : S5 n2 = some (.row 1 (NL.map iV)) := by rw [hS5, upd_ne (by omega)]; exact rN
        have q3 : S5 n3 = some (.map (ens iV bV (mput Lm clk NL[j] true).1) (mput Lm clk NL[j] true).2) := by rw [hS5, upd_self]
        have mo := mput_ok m1 NL[j] true
        by_cases hj0 : j = 0
        · have hz : ((j : Int) == 0) = true := by simp [hj0]
          simp +contextual -implicitDefEqProofs (maxSteps := 2000000) only [↓wP, wQ, wQ1, wQ2, wQ3, wR, boxE, partsOf, ↓reduceIte, Nat.reduceEqDiff, Nat.reduceAdd, Nat.reduceSub, Nat.reduceLeDiff, Nat.reduceLT, Nat.reduceMul, reduceCtorEq, Int.reduceBNe, Int.reduceBEq, Int.reduceLT, Int.reduceLE, Int.reduceGT, e1, e2, g1, g2, g3, g4, g5, g6, g7, hj, rN, hx, pu, hz, ← hS5]
          exact ⟨vN.symm, vN.symm, hK5, _, _, mo, q3, hnew⟩
        · have hz : ((j : Int) == 0) = false := by simp [hj0]
          obtain ⟨ia, ib, la, lb, ea, eb, hab⟩ := near_ord q (lst c) m hNL (j - 1) (by omega)
          have hjj : j - 1 + 1 = j := by omega
          have eb' : NL[j] = (ib : Int) := by rw [← eb]; congr 1; omega
          have wj : IntKind.i64.wrap ((j : Int) - 1) = ((j - 1 : Nat) : Int) := by rw [wrap_i64] <;> omega
          have hx2 : (NL.map iV)[j - 1]? = some (.int .i64 (ia : Int)) := by
            rw [List.getElem?_map, List.getElem?_eq_getElem (by omega), ea]; rfl
          have hjl : j - 1 < NL.length := by omega
          rw [eb'] at hx pu
          have xa : (lst c)[ia]? = some (lst c)[ia] := List.getElem?_eq_getElem la
          have xb : (lst c)[ib]? = some (lst c)[ib] := List.getElem?_eq_getElem lb
          have fa := f17t (htwo _ (List.getElem_mem la)) (hcv _ (List.getElem_mem la)) hqs
          have fb := f17t (htwo _ (List.getElem_mem lb)) (hcv _ (List.getElem_mem lb)) hqs
          have da : dis q (lst c) ia = distI (lst c)[ia] q := by simp [dis, la]
          have db : dis q (lst c) ib = distI (lst c)[ib] q := by simp [dis, lb]
          rw [← da] at fa
          rw [← db] at fb
          generalize (lst c)[ia] = va at *
          generalize (lst c)[ib] = vb at *
          generalize dis q (lst c) ia = dA at *
          generalize dis q (lst c) ib = dB at *
          have y1 : ∀ hid, hide S5 n n hid n2 = S5 n2 := fun hid => hide_low _ _ _ _ (by omega) (Nat.le_refl _)
          have y2 : ∀ hid, hide S5 n n hid 1 = S5 1 := fun hid => hide_low _ _ _ _ (by omega) (Nat.le_refl _)
          have hS5b : S5 = upd σ n3 (some (.map (ens iV bV (mput Lm clk (ib : Int) true).1) (mput Lm clk (ib : Int) true).2)) := by rw [hS5, eb']
          have z1 : ¬ dB < dA := by omega
          by_cases hde : dA = dB
          · have z2 : (dA == dB) = true := by simpa using hde
            have z3 : ¬ ((ib : Int) < (ia : Int)) := by omega
            simp +contextual -implicitDefEqProofs (maxSteps := 2000000) only [↓wP, wQ, wQ1, wQ2, wQ3, wR, boxE, partsOf, ↓reduceIte, Nat.reduceEqDiff, Nat.reduceAdd, Nat.reduceSub, Nat.reduceLeDiff, Nat.reduceLT, Nat.reduceMul, reduceCtorEq, Int.reduceBNe, Int.reduceBEq, Int.reduceLT, Int.reduceLE, Int.reduceGT, e1, e2, g1, g2, g3, g4, g5, g6, g7, hj, rN, hx, pu, hz, ← hS5b, wj, hx2, hjl, q1, q2, y1, y2, xa, xb, vecV_eq, fa, fb, z1, z2, z3, bne_self_eq_false]
            exact ⟨vN.symm, vN.symm, hK5, _, _, mo, q3, hnew⟩
          · have z2 : (dA == dB) = false := by simpa using hde
            simp +contextual -implicitDefEqProofs (maxSteps := 2000000) only [↓wP, wQ, wQ1, wQ2, wQ3, wR, boxE, partsOf, ↓reduceIte, Nat.reduceEqDiff, Nat.reduceAdd, Nat.reduceSub, Nat.reduceLeDiff, Nat.reduceLT, Nat.reduceMul, reduceCtorEq, Int.reduceBNe, Int.reduceBEq, Int.reduceLT, Int.reduceLE, Int.reduceGT, e1, e2, g1, g2, g3, g4, g5, g6, g7, hj, rN, hx, pu, hz, ← hS5b, wj, hx2, hjl, q1, q2, y1, y2, xa, xb, vecV_eq, fa, fb, z1, z2, bne_self_eq_false]
            exact ⟨vN.symm, vN.symm, hK5, _, _, mo, q3, hnew⟩
      · intro env σ n ⟨g1, g2, g3, g4, g5, g6, g7, g8, Lm, clk, m1, m2, m3⟩ e1 e2
        rw [List.take_length] at m3
        exact ⟨rfl, rfl, g1, g2, g3, g4, g6, g8, Lm, clk, m1, m2, m3⟩
      · simp +contextual -implicitDefEqProofs (maxSteps := 2000000) only [↓wP, wQ, wQ1, wQ2, wQ3, wR, boxE, partsOf, ↓reduceIte, Nat.reduceEqDiff, Nat.reduceAdd, Nat.reduceSub, Nat.reduceLeDiff, Nat.reduceLT, Nat.reduceMul, reduceCtorEq, Int.reduceBNe, Int.reduceBEq, Int.reduceLT, Int.reduceLE, Int.reduceGT]
        refine ⟨?_, [], 0, MOk.nil, rfl, fun x => rfl⟩
        rw [hK]
        exact ⟨by omega, by rw [upd_ne (by omega)]; exact t3, fun h => by rw [upd_ne (by have := n2r h; omega)]; exact t3m h, fun h => by rw [upd_ne (by have := n3r h; omega)]; exact t3n h⟩
    · intro env σ n ⟨g1, g2, g3, g4, g6, g8, Lm, clk, m1, m2, m3⟩
      obtain ⟨HL, hHL⟩ : ∃ HL : Nat → List Hit, HL = fun j => (selN q (lst c) m ((lst l).take j)).map (hitQ q) := ⟨_, rfl⟩
      have hHs : ∀ j (hj : j < (lst l).length), HL (j + 1) = HL j ++ if ((nb ((lst l)[j]).v (lst c) (lst c).length : Nat) : Int) ∈ NL then [hitQ q (lst l)[j]] else [] := by
        intro j hj
        rw [hHL]
        dsimp only
        rw [← List.take_append_getElem hj, selN_snoc, List.map_append, ← hNL]
        congr 1
        split <;> rfl
      have hHl : ∀ j, (HL j).length ≤ j := by
        intro j; rw [hHL]; dsimp only
        have := selN_len q (lst c) m ((lst l).take j)
        rw [List.length_take] at this
        rw [List.length_map]; omega
      have hHe : HL (lst l).length = (selN q (lst c) m (lst l)).map (hitQ q) := by rw [hHL]; dsimp only; rw [List.take_length]
      have hH0 : HL 0 = [] := by rw [hHL]; rfl
      rw [← hHe] at hM'
      clear hHL hHe
      have hn3n : n3 < n := by rw [hK] at g8; exact g8.1
      have hxV : ∀ x : Hit, hitV x = .agg [.int .u64 x.id, .int .u64 x.d] := fun _ => rfl
      obtain ⟨n4, hn4⟩ : ∃ n4, n4 = n := ⟨_, rfl⟩
      rw [hn4.symm] at hn3n
      simp +contextual -implicitDefEqProofs (maxSteps := 2000000) only [↓wP, wQ, wQ1, wQ2, wQ3, wR, boxE, partsOf, ↓reduceIte, Nat.reduceEqDiff, Nat.reduceAdd, Nat.reduceSub, Nat.reduceLeDiff, Nat.reduceLT, Nat.reduceMul, reduceCtorEq, Int.reduceBNe, Int.reduceBEq, Int.reduceLT, Int.reduceLE, Int.reduceGT, g1]
      rw [← hn4]
      refine WC_cutB (fun env σ n' => env 10 = hVal n1 M ∧ env 20 = .mp n4 ∧ n4 < n' ∧ K σ n' ∧
        ∃ Lm clk, MOk Lm clk ∧ σ n4 = some (.map (ens hitV i64' Lm) clk) ∧ ∀ h, (vw Lm h).getD 0 = cnt (HL (lst l).length) h) ?_ ?_
      · refine WC_for (lst l).length 0 (fun (j : Nat) env σ n' => env 148 = slV 2 rwV l ∧ env 8 = slV 1 vecV c ∧ env 9 = .ptr 1 4 0 0 ∧ env 10 = hVal n1 M ∧ env 13 = .mp n3 ∧ env 20 = .mp n4 ∧ n4 < n' ∧ K σ n' ∧ σ n3 = some (.map (ens iV bV Lm) clk) ∧
          ∃ Lm' clk', MOk Lm' clk' ∧ σ n4 = some (.map (ens hitV i64' Lm') clk') ∧ ∀ h, (vw Lm' h).getD 0 = cnt (HL j) h) (by omega) (by decide) (by decide) (fun _ _ => rfl) (fun _ _ _ => rfl) ?_ ?_ _ _ _ rfl rfl ?_
        · clear g1 g2 g3 g4 g6 g8
          intro j env σ n' hj e1 e2 ⟨g1, g2, g3, g4, g5, g6, g7, g8, g9, Lm', clk', w1, w2, w3⟩
          simp only [vl_tmp] at e2
          have g8' := g8
          rw [hK] at g8'
          obtain ⟨-, b2, -, -⟩ := g8'
          have hx : (lst l)[j]? = some (lst l)[j] := List.getElem?_eq_getElem hj
          have hm := List.getElem_mem hj
          have hst := hHs j hj
          have hvx := hlv _ hm
          have hok : okV (lst l)[j].v = true := by
            have := List.any_eq_false.1 a3 _ hm
            simpa using this
          have hdx : (lst (lst l)[j].v).length = (lst q).length := by
            have := List.any_eq_false.1 a5 _ hm
            simp at this; omega
          generalize (lst l)[j] = x at *
          have f18' := f18 c x.v hcl hne (nr_two hce hok (by omega)) hcv hvx
          obtain ⟨pp, hpp⟩ : ∃ p, p = ((nb x.v (lst c) (lst c).length : Nat) : Int) := ⟨_, rfl⟩
          rw [← hpp] at f18' hst
          have f17' := f17t (a := x.v) (b := q) ⟨hok, oq, hdx⟩ hvx hqs
          rw [distI_comm hdx] at f17'
          obtain ⟨h, hh⟩ : ∃ h, h = hitQ q x := ⟨_, rfl⟩
          have e3 : x.id = h.id := by rw [hh]; rfl
          have e4 : distI q x.v = h.d := by rw [hh]; rfl
          rw [e4] at f17'
          rw [← hh] at hst
          have hmi : mgetE false (.one .int) (.bool false) (some (ens iV bV Lm)) (.int .i64 pp) = some (.bool (decide (pp ∈ NL))) := by
            have := mget_ens (ve := bV) keyInt false (.bool false) pp Lm
            simp only [iV] at this
            rw [this, ← m3 pp]
            cases vw Lm pp <;> rfl
          obtain ⟨S, hS⟩ : ∃ S, S = upd (upd σ n' (some (Ob.row 2 [V.agg [V.int IntKind.u64 0, V.nilS]]))) n' (some (Ob.row 2 [V.agg [V.int IntKind.u64 h.id, slV 1 i32V x.v]])) := ⟨_, rfl⟩
          have hSo : ∀ i, i < n' → S i = σ i := fun i hi => by rw [hS, upd_ne (by omega), upd_ne (by omega)]
          have hSn : S n' = some (.row 2 [.agg [.int .u64 h.id, slV 1 i32V x.v]]) := by rw [hS, upd_self]
          have hS3 : S n3 = some (.map (ens iV bV Lm) clk) := by rw [hSo _ (by omega)]; exact g9
          have hS4 : S n4 = some (.map (ens hitV i64' Lm') clk') := by rw [hSo _ g7]; exact w2
          have hS1 : S 1 = some (Ob.row 4 [V.agg [slV 1 i32V q, V.int IntKind.i64 (kn : Int), V.int IntKind.u64 ts, V.int IntKind.i64 m]]) := by rw [hSo _ (by omega)]; exact b2
          have hKS : K S (n' + 1) := hKf σ S n' _ g8 (by omega) (fun i hi => hSo i (by omega))
          by_cases hmem : pp ∈ NL
          · rw [decide_eq_true hmem] at hmi
            rw [if_pos hmem] at hst
            have hmg : mgetE false (.agg [.int, .int]) (.int .i64 0) (some (ens hitV i64' Lm')) (.agg [.int .u64 h.id, .int .u64 h.d]) = some (.int .i64 (cnt (HL j) h)) := by
              have := mget_ens (ve := i64') keyHit false (.int .i64 0) h Lm'
              rw [hxV] at this
              rw [this, ← w3 h]
              cases vw Lm' h <;> rfl
            have c0 := cnt_nn (HL j) h
            have c1 := cnt_len (HL j) h
            have c2 := hHl j
            have wc : IntKind.i64.wrap (cnt (HL j) h + 1) = cnt (HL j) h + 1 := by rw [wrap_i64] <;> omega
            obtain ⟨L1, clk1, s1, p1, ok1, mem1, v1⟩ := ment_ens (ve := i64') (lk := 0) keyHit w1 (σ := S) (id := n4) hS4 (Nat.zero_le _) h (0 : Int) (n' + 1)
            rw [w3 h] at mem1 v1 p1
            obtain ⟨L2, p2, ok2, v2⟩ := mest_ens (ke := hitV) (ve := i64') (lk := 0) ok1 (σ := upd S n4 (some (.map (ens hitV i64' L1) clk1))) (id := n4) (by rw [upd_self]) (Nat.zero_le _) mem1 (cnt (HL j) h + 1) (n' + 1)
            simp only [i64', hxV] at p1 p2
            have v3 : n' ≠ n4 := by omega
            simp +contextual -implicitDefEqProofs (maxSteps := 2000000) only [↓wP, wQ, wQ1, wQ2, wQ3, wR, boxE, partsOf, ↓reduceIte, Nat.reduceEqDiff, Nat.reduceAdd, Nat.reduceSub, Nat.reduceLeDiff, Nat.reduceLT, Nat.reduceMul, reduceCtorEq, Int.reduceBNe, Int.reduceBEq, Int.reduceLT, Int.reduceLE, Int.reduceGT, e1, e2, g1, g2, g3, g4, g5, g6, hx, rwV_eq, e3, f18', f17', ← hS, hSn, hS1, hS3, hS4, hmi, hmg, wc, p1, p2, v3]
            refine ⟨by omega, hKf S _ _ _ hKS (Nat.le_refl _) (fun i hi => by rw [upd_ne (by omega), upd_ne (by omega)]), by rw [if_neg (by omega)], L2, clk1, ok2, rfl, fun h' => ?_⟩
            rw [v2, hst, cnt_snoc]
            by_cases e : h' = h
            · subst e; simp
            · rw [if_neg e, if_neg e, v1, if_neg e, w3 h']; simp
          · rw [decide_eq_false hmem] at hmi
            rw [if_neg hmem, List.append_nil] at hst
            simp +contextual -implicitDefEqProofs (maxSteps := 2000000) only [↓wP, wQ, wQ1, wQ2, wQ3, wR, boxE, partsOf, ↓reduceIte, Nat.reduceEqDiff, Nat.reduceAdd, Nat.reduceSub, Nat.reduceLeDiff, Nat.reduceLT, Nat.reduceMul, reduceCtorEq, Int.reduceBNe, Int.reduceBEq, Int.reduceLT, Int.reduceLE, Int.reduceGT, e1, e2, g1, g2, g3, g4, g5, g6, hx, rwV_eq, e3, f18', f17', ← hS, hSn, hS1, hS3, hmi]
            exact ⟨by omega, hKS, Lm', clk', w1, hS4, by rw [hst]; exact w3⟩
        · intro env σ n' ⟨g1, g2, g3, g4, g5, g6, g7, g8, g9, Lm', clk', w1, w2, w3⟩ e1 e2
          exact ⟨rfl, rfl, g4, g6, g7, g8, Lm', clk', w1, w2, w3⟩
        · simp +contextual -implicitDefEqProofs (maxSteps := 2000000) only [↓wP, wQ, wQ1, wQ2, wQ3, wR, boxE, partsOf, ↓reduceIte, Nat.reduceEqDiff, Nat.reduceAdd, Nat.reduceSub, Nat.reduceLeDiff, Nat.reduceLT, Nat.reduceMul, reduceCtorEq, Int.reduceBNe, Int.reduceBEq, Int.reduceLT, Int.reduceLE, Int.reduceGT, g2, g3, g4, g6]
          refine ⟨by omega, hKf σ _ _ _ g8 (by omega) (fun i hi => upd_ne (by omega)), by rw [if_neg (by omega)]; exact m2, [], 0, MOk.nil, rfl, fun h => ?_⟩
          rw [hH0]; rfl
      · clear g1 g2 g3 g4 g6 g8 m1 m2 m3 Lm clk
        intro env σ n' ⟨g1, g2, g3, g4, Lm, clk, m1, m2, m3⟩
        obtain ⟨L, hL⟩ : ∃ L, L = HL (lst l).length := ⟨_, rfl⟩
        have hLl : L.length ≤ 60 := by rw [hL]; have := hHl (lst l).length; omega
        rw [← hL] at m3 hM'
        simp +contextual -implicitDefEqProofs (maxSteps := 2000000) only [↓wP, wQ, wQ1, wQ2, wQ3, wR, boxE, partsOf, ↓reduceIte, Nat.reduceEqDiff, Nat.reduceAdd, Nat.reduceSub, Nat.reduceLeDiff, Nat.reduceLT, Nat.reduceMul, reduceCtorEq, Int.reduceBNe, Int.reduceBEq, Int.reduceLT, Int.reduceLE, Int.reduceGT, g1, hle]
        refine WC_for M.length 0 (fun (j : Nat) env σ n' => env 189 = hVal n1 M ∧ env 20 = .mp n4 ∧ n4 < n' ∧ K σ n' ∧
          ∃ Lm clk, MOk Lm clk ∧ σ n4 = some (.map (ens hitV i64' Lm) clk) ∧ ∀ h, (vw Lm h).getD 0 = cnt L h - cnt (M.take j) h) (by omega) (by decide) (by decide) (fun _ _ => rfl) (fun _ _ _ => rfl) ?_ ?_ _ _ _ rfl rfl ?_
        · clear m1 m2 m3 Lm clk g1 g2 g3 g4
          intro j env σ n' hj e1 e2 ⟨g1, g2, g3, g4, Lm, clk, m1, m2, m3⟩
          simp only [vl_tmp] at e2
          have g4' := g4
          rw [hK] at g4'
          obtain ⟨-, -, b3, -⟩ := g4'
          have nM : M ≠ [] := by intro h; rw [h] at hj; simp at hj
          have vM : hVal n1 M = .ref n1 0 M.length 2 := by unfold hVal; rw [if_neg nM]
          rw [vM] at g1
          have rM := b3 nM
          have n12 := n2r nM
          have hx := hs_get hj
          have c0 := cnt_nn (M.take j) M[j]
          have c1 := cnt_len L M[j]
          have c2 := cnt_le kn L M[j] (j + 1)
          rw [← hM', cnt_step M j hj] at c2
          rw [if_pos rfl] at c2
          have hst := cnt_step M j hj
          generalize M[j] = h at *
          have hmg : mgetE false (.agg [.int, .int]) (.int .i64 0) (some (ens hitV i64' Lm)) (.agg [.int .u64 h.id, .int .u64 h.d]) = some (.int .i64 (cnt L h - cnt (M.take j) h)) := by
            have := mget_ens (ve := i64') keyHit false (.int .i64 0) h Lm
            rw [hxV] at this
            rw [this, ← m3 h]
            cases vw Lm h <;> rfl
          have wc : IntKind.i64.wrap (cnt L h - cnt (M.take j) h - 1) = cnt L h - cnt (M.take j) h - 1 := by rw [wrap_i64] <;> omega
          obtain ⟨S, hS⟩ : ∃ S, S = upd (upd σ n' (some (Ob.row 2 [V.agg [V.int IntKind.u64 0, V.int IntKind.u64 0]]))) n' (some (Ob.row 2 [V.agg [V.int IntKind.u64 h.id, V.int IntKind.u64 h.d]])) := ⟨_, rfl⟩
          have hSo : ∀ i, i < n' → S i = σ i := fun i hi => by rw [hS, upd_ne (by omega), upd_ne (by omega)]
          have hSn : S n' = some (.row 2 [.agg [.int .u64 h.id, .int .u64 h.d]]) := by rw [hS, upd_self]
          have hS2 : S n4 = some (.map (ens hitV i64' Lm) clk) := by rw [hSo _ g3]; exact m2
          have hKS : K S (n' + 1) := hKf σ S n' _ g4 (by omega) (fun i hi => hSo i (by omega))
          obtain ⟨L1, clk1, s1, p1, ok1, mem1, w1⟩ := ment_ens (ve := i64') (lk := 0) keyHit m1 (σ := S) (id := n4) hS2 (Nat.zero_le _) h (0 : Int) (n' + 1)
          rw [m3 h] at mem1 w1 p1
          obtain ⟨L2, p2, ok2, w2⟩ := mest_ens (ke := hitV) (ve := i64') (lk := 0) ok1 (σ := upd S n4 (some (.map (ens hitV i64' L1) clk1))) (id := n4) (by rw [upd_self]) (Nat.zero_le _) mem1 (cnt L h - cnt (M.take j) h - 1) (n' + 1)
          have hmg2 : mgetE false (.agg [.int, .int]) (.int .i64 0) (some (ens hitV i64' L2)) (.agg [.int .u64 h.id, .int .u64 h.d]) = some (.int .i64 (cnt L h - cnt (M.take j) h - 1)) := by
            have := mget_ens (ve := i64') keyHit false (.int .i64 0) h L2
            rw [hxV] at this
            rw [this, w2, if_pos rfl]; rfl
          simp only [i64', hxV] at p1 p2
          have hnn : (cnt L h - cnt (M.take j) h - 1 < 0) = False := by simp; omega
          have v1 : n' ≠ n4 := by omega
          simp +contextual -implicitDefEqProofs (maxSteps := 2000000) only [↓wP, wQ, wQ1, wQ2, wQ3, wR, boxE, partsOf, ↓reduceIte, Nat.reduceEqDiff, Nat.reduceAdd, Nat.reduceSub, Nat.reduceLeDiff, Nat.reduceLT, Nat.reduceMul, reduceCtorEq, Int.reduceBNe, Int.reduceBEq, Int.reduceLT, Int.reduceLE, Int.reduceGT, e1, e2, g1, g2, rM, hx, hj, ← hS, hSn, hS2, hmg, wc, p1, p2, v1, hmg2, hnn]
          refine ⟨vM.symm, by omega, hKf S _ _ _ hKS (Nat.le_refl _) (fun i hi => by rw [upd_ne (by omega), upd_ne (by omega)]), L2, clk1, ok2, rfl, fun h' => ?_⟩
          rw [w2, hst h']
          by_cases e : h' = h
          · subst e; simp; omega
          · rw [if_neg e, if_neg e, w1, if_neg e, m3 h']; simp
        · intro env σ n' ⟨g1, g2, g3, g4, Lm, clk, m1, m2, m3⟩ e1 e2
          simp +contextual -implicitDefEqProofs (maxSteps := 2000000) only [↓wP, wQ, wQ1, wQ2, wQ3, wR, boxE, partsOf, ↓reduceIte, Nat.reduceEqDiff, Nat.reduceAdd, Nat.reduceSub, Nat.reduceLeDiff, Nat.reduceLT, Nat.reduceMul, reduceCtorEq, Int.reduceBNe, Int.reduceBEq, Int.reduceLT, Int.reduceLE, Int.reduceGT]
        · simp +contextual -implicitDefEqProofs (maxSteps := 2000000) only [↓wP, wQ, wQ1, wQ2, wQ3, wR, boxE, partsOf, ↓reduceIte, Nat.reduceEqDiff, Nat.reduceAdd, Nat.reduceSub, Nat.reduceLeDiff, Nat.reduceLT, Nat.reduceMul, reduceCtorEq, Int.reduceBNe, Int.reduceBEq, Int.reduceLT, Int.reduceLE, Int.reduceGT, g2]
          exact ⟨g3, g4, Lm, clk, m1, m2, fun h => by rw [m3 h]; simp [cnt]⟩
  · have hd : (pE (lst l) c q k m != 0) = true := by simpa using he
    have eL : M = [] := by rw [hM]; unfold pL; rw [if_neg he]
    rw [eL] at hle c15
    simp +contextual -implicitDefEqProofs (maxSteps := 2000000) only [↓wP, wQ, wQ1, wQ2, wQ3, wR, boxE, partsOf, ↓reduceIte, Nat.reduceEqDiff, Nat.reduceAdd, Nat.reduceSub, Nat.reduceLeDiff, Nat.reduceLT, Nat.reduceMul, reduceCtorEq, Int.reduceBNe, Int.reduceBEq, Int.reduceLT, Int.reduceLE, Int.reduceGT, f7, c13, c8, c14, ← hS0, t0, y0, u1, mg1, Nat.mul_one, ← hn1, u2, ← hS1, t1, c15, hd, hle]
    rfl
end Go.Q.S14
end

section
/- The table is the program's. -/
namespace Go.Q.S14
open Go.Proofs
def Has (f : Nat) (fn : Fn) : Prop := ∃ F, Try.prog.funcs[f]? = some F ∧ cFunc Try.prog (ownB T) F = some fn ∧ (F.name == "runtime.NumGoroutine") = false
theorem h3 : Has 3 g3 := ⟨Try.f3, Try.func3, by kernel_rfl, by kernel_rfl⟩
theorem h4 : Has 4 g4 := ⟨Try.f4, Try.func4, by kernel_rfl, by kernel_rfl⟩
theorem h5 : Has 5 g5 := ⟨Try.f5, Try.func5, by kernel_rfl, by kernel_rfl⟩
theorem h6 : Has 6 g6 := ⟨Try.f6, Try.func6, by kernel_rfl, by kernel_rfl⟩
theorem h7 : Has 7 g7 := ⟨Try.f7, Try.func7, by kernel_rfl, by kernel_rfl⟩
theorem h8 : Has 8 g8 := ⟨Try.f8, Try.func8, by kernel_rfl, by kernel_rfl⟩
theorem h9 : Has 9 g9 := ⟨Try.f9, Try.func9, by kernel_rfl, by kernel_rfl⟩
theorem h10 : Has 10 g10 := ⟨Try.f10, Try.func10, by kernel_rfl, by kernel_rfl⟩
theorem h11 : Has 11 g11 := ⟨Try.f11, Try.func11, by kernel_rfl, by kernel_rfl⟩
theorem h12 : Has 12 g12 := ⟨Try.f12, Try.func12, by kernel_rfl, by kernel_rfl⟩
theorem h13 : Has 13 g13 := ⟨Try.f13, Try.func13, by kernel_rfl, by kernel_rfl⟩
theorem h14 : Has 14 g14 := ⟨Try.f14, Try.func14, by kernel_rfl, by kernel_rfl⟩
theorem h15 : Has 15 g15 := ⟨Try.f15, Try.func15, by kernel_rfl, by kernel_rfl⟩
theorem h16 : Has 16 g16 := ⟨Try.f16, Try.func16, by kernel_rfl, by kernel_rfl⟩
theorem h17 : Has 17 g17 := ⟨Try.f17, Try.func17, by kernel_rfl, by kernel_rfl⟩
theorem h18 : Has 18 g18 := ⟨Try.f18, Try.func18, by kernel_rfl, by kernel_rfl⟩
theorem h19 : Has 19 g19 := ⟨Try.f19, Try.func19, by kernel_rfl, by kernel_rfl⟩
theorem h20 : Has 20 g20 := ⟨Try.f20, Try.func20, by kernel_rfl, by kernel_rfl⟩
theorem h21 : Has 21 g21 := ⟨Try.f21, Try.func21, by kernel_rfl, by kernel_rfl⟩
theorem h22 : Has 22 g22 := ⟨Try.f22, Try.func22, by kernel_rfl, by kernel_rfl⟩
theorem h23 : Has 23 g23 := ⟨Try.f23, Try.func23, by kernel_rfl, by kernel_rfl⟩
theorem h24 : Has 24 g24 := ⟨Try.f24, Try.func24, by kernel_rfl, by kernel_rfl⟩
theorem h25 : Has 25 g25 := ⟨Try.f25, Try.func25, by kernel_rfl, by kernel_rfl⟩
theorem h26 : Has 26 g26 := ⟨Try.f26, Try.func26, by kernel_rfl, by kernel_rfl⟩
theorem h27 : Has 27 g27 := ⟨Try.f27, Try.func27, by kernel_rfl, by kernel_rfl⟩
theorem h28 : Has 28 g28 := ⟨Try.f28, Try.func28, by kernel_rfl, by kernel_rfl⟩
theorem h29 : Has 29 g29 := ⟨Try.f29, Try.func29, by kernel_rfl, by kernel_rfl⟩
theorem h30 : Has 30 g30 := ⟨Try.f30, Try.func30, by kernel_rfl, by kernel_rfl⟩
theorem h31 : Has 31 g31 := ⟨Try.f31, Try.func31, by kernel_rfl, by kernel_rfl⟩
theorem h32 : Has 32 g32 := ⟨Try.f32, Try.func32, by kernel_rfl, by kernel_rfl⟩
theorem h33 : Has 33 g33 := ⟨Try.f33, Try.func33, by kernel_rfl, by kernel_rfl⟩
theorem h34 : Has 34 g34 := ⟨Try.f34, Try.func34, by kernel_rfl, by kernel_rfl⟩
theorem h35 : Has 35 g35 := ⟨Try.f35, Try.func35, by kernel_rfl, by kernel_rfl⟩
theorem h36 : Has 36 g36 := ⟨Try.f36, Try.func36, by kernel_rfl, by kernel_rfl⟩
theorem h37 : Has 37 g37 := ⟨Try.f37, Try.func37, by kernel_rfl, by kernel_rfl⟩
theorem h38 : Has 38 g38 := ⟨Try.f38, Try.func38, by kernel_rfl, by kernel_rfl⟩
theorem h39 : Has 39 g39 := ⟨Try.f39, Try.func39, by kernel_rfl, by kernel_rfl⟩
theorem h40 : Has 40 g40 := ⟨Try.f40, Try.func40, by kernel_rfl, by kernel_rfl⟩
theorem h41 : Has 41 g41 := ⟨Try.f41, Try.func41, by kernel_rfl, by kernel_rfl⟩
theorem h42 : Has 42 g42 := ⟨Try.f42, Try.func42, by kernel_rfl, by kernel_rfl⟩
theorem h43 : Has 43 g43 := ⟨Try.f43, Try.func43, by kernel_rfl, by kernel_rfl⟩
theorem h44 : Has 44 g44 := ⟨Try.f44, Try.func44, by kernel_rfl, by kernel_rfl⟩
theorem h45 : Has 45 g45 := ⟨Try.f45, Try.func45, by kernel_rfl, by kernel_rfl⟩
theorem h46 : Has 46 g46 := ⟨Try.f46, Try.func46, by kernel_rfl, by kernel_rfl⟩
theorem h47 : Has 47 g47 := ⟨Try.f47, Try.func47, by kernel_rfl, by kernel_rfl⟩
theorem h48 : Has 48 g48 := ⟨Try.f48, Try.func48, by kernel_rfl, by kernel_rfl⟩
theorem h49 : Has 49 g49 := ⟨Try.f49, Try.func49, by kernel_rfl, by kernel_rfl⟩
theorem h50 : Has 50 g50 := ⟨Try.f50, Try.func50, by kernel_rfl, by kernel_rfl⟩
theorem h51 : Has 51 g51 := ⟨Try.f51, Try.func51, by kernel_rfl, by kernel_rfl⟩
theorem h52 : Has 52 g52 := ⟨Try.f52, Try.func52, by kernel_rfl, by kernel_rfl⟩
theorem h53 : Has 53 g53 := ⟨Try.f53, Try.func53, by kernel_rfl, by kernel_rfl⟩
theorem h54 : Has 54 g54 := ⟨Try.f54, Try.func54, by kernel_rfl, by kernel_rfl⟩
theorem h55 : Has 55 g55 := ⟨Try.f55, Try.func55, by kernel_rfl, by kernel_rfl⟩
theorem h56 : Has 56 g56 := ⟨Try.f56, Try.func56, by kernel_rfl, by kernel_rfl⟩
theorem h57 : Has 57 g57 := ⟨Try.f57, Try.func57, by kernel_rfl, by kernel_rfl⟩
theorem h58 : Has 58 g58 := ⟨Try.f58, Try.func58, by kernel_rfl, by kernel_rfl⟩
theorem h59 : Has 59 g59 := ⟨Try.f59, Try.func59, by kernel_rfl, by kernel_rfl⟩
theorem h60 : Has 60 g60 := ⟨Try.f60, Try.func60, by kernel_rfl, by kernel_rfl⟩
theorem h61 : Has 61 g61 := ⟨Try.f61, Try.func61, by kernel_rfl, by kernel_rfl⟩
theorem h62 : Has 62 g62 := ⟨Try.f62, Try.func62, by kernel_rfl, by kernel_rfl⟩
theorem h63 : Has 63 g63 := ⟨Try.f63, Try.func63, by kernel_rfl, by kernel_rfl⟩
theorem h64 : Has 64 g64 := ⟨Try.f64, Try.func64, by kernel_rfl, by kernel_rfl⟩
theorem h65 : Has 65 g65 := ⟨Try.f65, Try.func65, by kernel_rfl, by kernel_rfl⟩
theorem h66 : Has 66 g66 := ⟨Try.f66, Try.func66, by kernel_rfl, by kernel_rfl⟩
theorem h67 : Has 67 g67 := ⟨Try.f67, Try.func67, by kernel_rfl, by kernel_rfl⟩
theorem h68 : Has 68 g68 := ⟨Try.f68, Try.func68, by kernel_rfl, by kernel_rfl⟩
theorem h69 : Has 69 g69 := ⟨Try.f69, Try.func69, by kernel_rfl, by kernel_rfl⟩
theorem h70 : Has 70 g70 := ⟨Try.f70, Try.func70, by kernel_rfl, by kernel_rfl⟩
theorem h71 : Has 71 g71 := ⟨Try.f71, Try.func71, by kernel_rfl, by kernel_rfl⟩
theorem h72 : Has 72 g72 := ⟨Try.f72, Try.func72, by kernel_rfl, by kernel_rfl⟩
theorem h73 : Has 73 g73 := ⟨Try.f73, Try.func73, by kernel_rfl, by kernel_rfl⟩
theorem h74 : Has 74 g74 := ⟨Try.f74, Try.func74, by kernel_rfl, by kernel_rfl⟩
theorem h75 : Has 75 g75 := ⟨Try.f75, Try.func75, by kernel_rfl, by kernel_rfl⟩
theorem h76 : Has 76 g76 := ⟨Try.f76, Try.func76, by kernel_rfl, by kernel_rfl⟩
theorem h77 : Has 77 g77 := ⟨Try.f77, Try.func77, by kernel_rfl, by kernel_rfl⟩
theorem h78 : Has 78 g78 := ⟨Try.f78, Try.func78, by kernel_rfl, by kernel_rfl⟩
theorem h79 : Has 79 g79 := ⟨Try.f79, Try.func79, by kernel_rfl, by kernel_rfl⟩
theorem h80 : Has 80 g80 := ⟨Try.f80, Try.func80, by kernel_rfl, by kernel_rfl⟩
theorem h81 : Has 81 g81 := ⟨Try.f81, Try.func81, by kernel_rfl, by kernel_rfl⟩
theorem h82 : Has 82 g82 := ⟨Try.f82, Try.func82, by kernel_rfl, by kernel_rfl⟩
theorem h83 : Has 83 g83 := ⟨Try.f83, Try.func83, by kernel_rfl, by kernel_rfl⟩
theorem h84 : Has 84 g84 := ⟨Try.f84, Try.func84, by kernel_rfl, by kernel_rfl⟩
theorem h85 : Has 85 g85 := ⟨Try.f85, Try.func85, by kernel_rfl, by kernel_rfl⟩
theorem h86 : Has 86 g86 := ⟨Try.f86, Try.func86, by kernel_rfl, by kernel_rfl⟩
theorem h87 : Has 87 g87 := ⟨Try.f87, Try.func87, by kernel_rfl, by kernel_rfl⟩
theorem h88 : Has 88 g88 := ⟨Try.f88, Try.func88, by kernel_rfl, by kernel_rfl⟩
theorem h89 : Has 89 g89 := ⟨Try.f89, Try.func89, by kernel_rfl, by kernel_rfl⟩
theorem h90 : Has 90 g90 := ⟨Try.f90, Try.func90, by kernel_rfl, by kernel_rfl⟩
theorem h91 : Has 91 g91 := ⟨Try.f91, Try.func91, by kernel_rfl, by kernel_rfl⟩
theorem h92 : Has 92 g92 := ⟨Try.f92, Try.func92, by kernel_rfl, by kernel_rfl⟩
theorem h93 : Has 93 g93 := ⟨Try.f93, Try.func93, by kernel_rfl, by kernel_rfl⟩
theorem h94 : Has 94 g94 := ⟨Try.f94, Try.func94, by kernel_rfl, by kernel_rfl⟩
theorem h95 : Has 95 g95 := ⟨Try.f95, Try.func95, by kernel_rfl, by kernel_rfl⟩
theorem h96 : Has 96 g96 := ⟨Try.f96, Try.func96, by kernel_rfl, by kernel_rfl⟩
theorem h97 : Has 97 g97 := ⟨Try.f97, Try.func97, by kernel_rfl, by kernel_rfl⟩
theorem h98 : Has 98 g98 := ⟨Try.f98, Try.func98, by kernel_rfl, by kernel_rfl⟩
theorem h99 : Has 99 g99 := ⟨Try.f99, Try.func99, by kernel_rfl, by kernel_rfl⟩
theorem h100 : Has 100 g100 := ⟨Try.f100, Try.func100, by kernel_rfl, by kernel_rfl⟩
theorem h101 : Has 101 g101 := ⟨Try.f101, Try.func101, by kernel_rfl, by kernel_rfl⟩
theorem h102 : Has 102 g102 := ⟨Try.f102, Try.func102, by kernel_rfl, by kernel_rfl⟩
theorem h103 : Has 103 g103 := ⟨Try.f103, Try.func103, by kernel_rfl, by kernel_rfl⟩
theorem h104 : Has 104 g104 := ⟨Try.f104, Try.func104, by kernel_rfl, by kernel_rfl⟩
theorem h105 : Has 105 g105 := ⟨Try.f105, Try.func105, by kernel_rfl, by kernel_rfl⟩
theorem h122 : Has 122 g122 := ⟨Try.f122, Try.func122, by kernel_rfl, by kernel_rfl⟩
theorem h123 : Has 123 g123 := ⟨Try.f123, Try.func123, by kernel_rfl, by kernel_rfl⟩
theorem h124 : Has 124 g124 := ⟨Try.f124, Try.func124, by kernel_rfl, by kernel_rfl⟩
theorem h125 : Has 125 g125 := ⟨Try.f125, Try.func125, by kernel_rfl, by kernel_rfl⟩
theorem tabOf : TabOf Try.prog T := by
  intro f fn h
  simp only [T] at h
  unfold fnOf at h
  split at h
  all_goals first | (cases h; done) | skip
  all_goals (simp only [Option.some.injEq] at h; subst h)
  · exact h3
  · exact h4
  · exact h5
  · exact h6
  · exact h7
  · exact h8
  · exact h9
  · exact h10
  · exact h11
  · exact h12
  · exact h13
  · exact h14
  · exact h15
  · exact h16
  · exact h17
  · exact h18
  · exact h19
  · exact h20
  · exact h21
  · exact h22
  · exact h23
  · exact h24
  · exact h25
  · exact h26
  · exact h27
  · exact h28
  · exact h29
  · exact h30
  · exact h31
  · exact h32
  · exact h33
  · exact h34
  · exact h35
  · exact h36
  · exact h37
  · exact h38
  · exact h39
  · exact h40
  · exact h41
  · exact h42
  · exact h43
  · exact h44
  · exact h45
  · exact h46
  · exact h47
  · exact h48
  · exact h49
  · exact h50
  · exact h51
  · exact h52
  · exact h53
  · exact h54
  · exact h55
  · exact h56
  · exact h57
  · exact h58
  · exact h59
  · exact h60
  · exact h61
  · exact h62
  · exact h63
  · exact h64
  · exact h65
  · exact h66
  · exact h67
  · exact h68
  · exact h69
  · exact h70
  · exact h71
  · exact h72
  · exact h73
  · exact h74
  · exact h75
  · exact h76
  · exact h77
  · exact h78
  · exact h79
  · exact h80
  · exact h81
  · exact h82
  · exact h83
  · exact h84
  · exact h85
  · exact h86
  · exact h87
  · exact h88
  · exact h89
  · exact h90
  · exact h91
  · exact h92
  · exact h93
  · exact h94
  · exact h95
  · exact h96
  · exact h97
  · exact h98
  · exact h99
  · exact h100
  · exact h101
  · exact h102
  · exact h103
  · exact h104
  · exact h105
  · exact h122
  · exact h123
  · exact h124
  · exact h125
theorem mixed : Try.prog.follows .mixedOrders = true := by kernel_rfl
end Go.Q.S14
end
