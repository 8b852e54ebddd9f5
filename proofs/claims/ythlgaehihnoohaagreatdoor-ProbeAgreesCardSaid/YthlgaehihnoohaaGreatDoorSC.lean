/- The nearest centroids: what the program says. -/
import Derived.Test.YthlgaehihnoohaaGreatDoorSB
import Derived.Test.YthlgaehihnoohaaGreatDoorProg
import Derived.KernelRfl
import Derived.Shelf.Spec.TrailingZeros
set_option linter.unusedVariables false
set_option linter.unusedSimpArgs false
set_option linter.unusedSectionVars false
set_option linter.defProp false
section
namespace Go.Q.SD
open Go.Q Go.Sort
open Nat renaming reduceEqDiff → n1w, reduceAdd → n2w, reduceSub → n3w, reduceLeDiff → n4w, reduceLT → n5w, reduceMul → n6w
open Int renaming reduceBNe → i1w, reduceBEq → i2w, reduceLT → i3w, reduceLE → i4w, reduceGT → i5w
theorem yieldW_gs {T : Tab} {l : Nat} {args : List V} {σ : Sto} {n lk : Nat} {Q : V → Sto → Nat → Prop} {env : Nat → V} {ps : List Nat} {assign body : AC} {pend : Option Ex}
 (hl : σ l = some (.loop env ps assign body .ready pend)) (ha : args.length = ps.length) (hlk : lk ≤ l)
 (h : WC T assign (bindPs env ps args) σ n lk fun ex s => ex = .normal ∧ s.σ l = some (.loop env ps assign body .ready pend) ∧ s.lk = lk ∧
  WC T body s.env (upd s.σ l (some (.loop env ps assign body .busy pend))) s.n lk fun ex s' => s'.σ l = some (.loop env ps assign body .busy pend) ∧
   ((ex = .normal ∧ Q (.bool true) (upd s'.σ l (some (.loop env ps assign body .ready none))) s'.n) ∨ (ex = .ret ∧ Q (.bool false) (upd s'.σ l (some (.loop env ps assign body .done (some .ret)))) s'.n))) (hd : assign.det = true ∧ body.det = true := by exact ⟨rfl, rfl⟩) : yieldW (run T) l args σ n lk Q := by
 unfold yieldW
 simp only [hl]
 refine ⟨ha, hlk, run_step hd ?_⟩
 simp only [jobW]
 refine wpC_mono (fun _ _ x => x) run_mono _ _ _ _ (fun e s ⟨h1, h2, h3, h4⟩ => ?_) (WC_ok _ _ _ _ _ _ h)
 obtain ⟨env1, σ1, n1, lk1⟩ := s
 simp only at h2 h3 h4
 subst h3
 refine ⟨h1, env, ps, assign, body, pend, h2, wpC_mono (fun _ _ x => x) run_mono _ _ _ _ (fun e2 s2 ⟨k2, k3⟩ => ?_) (WC_ok _ _ _ _ _ _ h4)⟩
 refine ⟨⟨env, ps, assign, body, pend, k2⟩, env, ps, assign, body, pend, k2, ?_⟩
 rcases k3 with ⟨rfl, k3⟩ | ⟨rfl, k3⟩
 ·simpa using k3
 ·simpa using k3
def iV (i : Int) : V := .int .i64 i
def ownI (l : List Int) : V := if l = [] then .nilS else .own 1 (l.map iV)
def iVal (n : Nat) (l : List Int) : V := if l = [] then .nilS else .ref n 0 l.length 1
def iSto (σ : Sto) (n : Nat) (l : List Int) : Sto := if l = [] then σ else upd σ n (some (.row 1 (l.map iV)))
def iN (n : Nat) (l : List Int) : Nat := if l = [] then n else n + 1
theorem iter48 (q : Vc) (k ts m : Int) (c : Option (List Vc)) (Hs : List Hit) (l : Nat) (J : Nat → Sto → Nat → Prop) (σ : Sto) (n : Nat) (hln : l < n) (hH : Hs.length < 1000000) (hid : ∀ h ∈ Hs, 0 ≤ h.id ∧ h.id < 1000000) (hm : 0 ≤ m)
 (hfr : ∀ j σ n σ' n', J j σ n → n ≤ n' → (∀ i, i < n → σ' i = σ i) → J j σ' n')
 (hy : ∀ j (hj : j < Hs.length) σ n, (j : Int) < m → J j σ n → l < n → yieldW (run T) l [.int .i64 Hs[j].id] σ n 0 (fun y σ' n' => n ≤ n' ∧ y = .bool true ∧ J (j + 1) σ' n'))
 (h0 : J 0 σ n) : run T (.raw 68 (.yld l :: [.box [.sl 2 (hs Hs)], .box (srcV q k ts m c)]) σ n 0) (memQ fun _ σ' n' => J (min m.toNat Hs.length) σ' n') := by
 refine run_rawE (fn := g68) rfl rfl ?_
 simp only [g68, b68, zO, zN, zM, zL, zG, zP, zQ, zI, zA, zT, zF, zB, zC, zD, zE, zH, zJ, zK, srcV]
 obtain ⟨MP, hMP⟩ : ∃ MP : Sto → Nat → Prop, MP = fun σ' n' => J (min m.toNat Hs.length) σ' n' := ⟨_, rfl⟩
 simp only [← congrFun (congrFun hMP _) _]
 have hle : lenE (.sl 2 (hs Hs)) = some (.int .i64 (Hs.length : Int)) := by simp [lenE, lenOf, hs_len]
 simp +contextual -implicitDefEqProofs (maxSteps := 2000000) only [↓wP, wS, seval, hle]
 refine WC_for Hs.length 0 (fun (j : Nat) env σ n => env 0 = .yld l ∧ env 2 = .box [slV 1 i32V q, .int .i64 k, .int .u64 ts, .int .i64 m, slV 1 vecV c] ∧ env 6 = .sl 2 (hs Hs) ∧ l < n ∧ (j : Int) ≤ m ∧ J j σ n) (by omega) (by decide) (by decide) (fun _ _ => rfl) (fun _ _ _ => rfl) ?_ ?_ _ _ _ rfl rfl ?_
 ·intro j env σ n hj h1 h2 ⟨h3, h4, h5, h6, h7, h8⟩
  simp only [vl_tmp] at h2
  have hm' := List.getElem_mem hj
  obtain ⟨i1, i2⟩ := hid _ hm'
  have hx : (hs Hs)[j]? = some (.agg [.int .u64 Hs[j].id, .int .u64 Hs[j].d]) := by
   simp [hs, hitV, hj]
  have hJ1 := hfr _ _ _ (upd (upd σ n (some (.row 2 [.agg [.int .u64 0, .int .u64 0]]))) n (some (.row 2 [.agg [.int .u64 Hs[j].id, .int .u64 Hs[j].d]]))) (n + 1) h8 (by omega) (fun i hi => by
   have : i ≠ n := by omega
   simp [upd, this])
  have hY := hy j hj
  have wi : IntKind.i64.wrap Hs[j].id = Hs[j].id := by rw [wrap_i64] <;> omega
  generalize Hs[j] = x at *
  by_cases hjm : (j : Int) = m
  ·have mp : MP (upd (upd σ n (some (.row 2 [.agg [.int .u64 0, .int .u64 0]]))) n (some (.row 2 [.agg [.int .u64 x.id, .int .u64 x.d]]))) (n + 1) := by
    rw [hMP]; dsimp only; rw [show min m.toNat Hs.length = j by omega]; exact hJ1
   have hjm' : ((j : Int) == m) = true := by simpa using hjm
   simp +contextual -implicitDefEqProofs (maxSteps := 2000000) only [↓wP, wS, seval, h1, h2, h3, h4, h5, hx, hjm']
   exact mp
  ·have hjm' : ((j : Int) == m) = false := by simpa using hjm
   simp +contextual -implicitDefEqProofs (maxSteps := 2000000) only [↓wP, wS, seval, h1, h2, h3, h4, h5, hx, hjm', wi]
   refine stepW_yld (yieldW_mono (fun _ _ x => x) run_mono (fun y σ' n' ⟨a1, a2, a3⟩ => ?_) (hY _ _ (by omega) hJ1 (by omega)))
   subst a2
   simp +contextual -implicitDefEqProofs (maxSteps := 2000000) only [↓wP, wS, seval, h1, h2, h3, h4, h5]
   exact ⟨by omega, by omega, a3⟩
 ·intro env σ n ⟨h3, h4, h5, h6, h7, h8⟩ h1 h2
  have mp : MP σ n := by rw [hMP]; dsimp only; rw [show min m.toNat Hs.length = Hs.length by omega]; exact h8
  simp +contextual -implicitDefEqProofs (maxSteps := 2000000) only [↓wP, wS, seval]
  exact mp
 ·simp +contextual -implicitDefEqProofs (maxSteps := 2000000) only [↓wP, wS, seval]
  exact ⟨hln, hm, h0⟩
theorem thaw_ownI (σ : Sto) (n : Nat) (l : List Int) : thaw σ n (ownI l) = (iVal n l, iSto σ n l, iN n l) := by
 cases l with
 | nil => rfl
 | cons x l =>
   unfold iVal iSto iN ownI
   rw [if_neg (by simp), if_neg (by simp), if_neg (by simp), if_neg (by simp), thaw_own, thawL_nw 12 (by
    intro y hy
    obtain ⟨z, -, rfl⟩ := List.mem_map.1 hy
    rfl), List.length_map]
theorem flat_iV (l : List Int) : flatL (l.map iV) = true := by
 induction l with
 | nil => rfl
 | cons x l ih => simp only [List.map_cons, flatL, iV, flat, Bool.true_and]; exact ih
theorem flat_ownI (l : List Int) : flat (ownI l) = true := by
 unfold ownI
 split
 ·rfl
 ·exact flat_iV l
theorem giv_none (σ : Sto) {e : Int} (h : e ≠ 0) (l : List Int) : giv σ 12 (.tup [.nilS, .int .i64 e]) = some (.tup [ownI (if e = 0 then l else []), .int .i64 e]) ∧ (gids σ 12 (.tup [.nilS, .int .i64 e])).Nodup := by
 rw [if_neg h]
 exact giv_tup2 ⟨rfl, by simp [gids]⟩ rfl rfl
theorem iV_giv {σ : Sto} {n : Nat} {l : List Int} {v : V} (h : Pl σ 3 n 1 v (oL (l.map iV))) : giv σ 11 v = some (ownI l) ∧ (gids σ 11 v).Nodup := by
 cases l with
 | nil => simp only [List.map_nil, oL, Pl] at h; subst h; exact ⟨rfl, by simp [gids]⟩
 | cons x l =>
   simp only [List.map_cons, oL, Pl] at h
   obtain ⟨i, rfl, h1, -, -⟩ := h
   have e : iV x :: l.map iV = (x :: l).map iV := rfl
   rw [e] at h1 ⊢
   unfold ownI
   rw [if_neg (by simp)]
   generalize x :: l = L at *
   have hg : ∀ x ∈ L.map iV, elemM (giv σ 10) x = some x := by
    intro x hx
    obtain ⟨y, -, rfl⟩ := List.mem_map.1 hx
    rfl
   have hg' : ∀ x ∈ L.map iV, ∀ c ∈ x.cells, gids σ 10 c = [] := by
    intro x hx c hc
    obtain ⟨y, -, rfl⟩ := List.mem_map.1 hx
    simp only [iV, V.cells, List.mem_cons, List.not_mem_nil, or_false] at hc
    subst hc; rfl
   constructor
   ·simp only [giv, h1, and_self, if_true]
    rw [mapM_id hg]; rfl
   ·simp only [gids, h1]
    rw [List.flatMap_eq_nil_iff.2 fun x hx => List.flatMap_eq_nil_iff.2 fun c hc => hg' x hx c hc]
    simp
def near (q : Vc) (c : List Vc) (m : Int) : List Int := ((srt (ctH q c 0)).take m.toNat).map (·.id)
def ask10 : AC := (.reg [⟨(some 13), none, .mov (.tmp 44)⟩])
def bd13 : AC := (.block 1 (.reg [⟨(some 45), none, .load false 1 (.tmp 12)⟩,
 ⟨(some 46), none, .mov (.tmp 13)⟩,
 ⟨(some 47), none, .lit 1 [(.tmp 46)]⟩,
 ⟨(some 48), none, .append 1 8 (.tmp 45) (.tmp 47)⟩,
 ⟨none, none, .store 1 (.tmp 12) (.tmp 48)⟩]))
theorem w_ask10 (env : Nat → V) (σ : Sto) (n lk : Nat) (Q : Ex → St → Prop) : WC T ask10 env σ n lk Q = WC T (.reg [⟨(some 13), none, .mov (.tmp 44)⟩]) env σ n lk Q := rfl
theorem w_bd13 (env : Nat → V) (σ : Sto) (n lk : Nat) (Q : Ex → St → Prop) : WC T bd13 env σ n lk Q = WC T (.block 1 (.reg [⟨(some 45), none, .load false 1 (.tmp 12)⟩,
 ⟨(some 46), none, .mov (.tmp 13)⟩,
 ⟨(some 47), none, .lit 1 [(.tmp 46)]⟩,
 ⟨(some 48), none, .append 1 8 (.tmp 45) (.tmp 47)⟩,
 ⟨none, none, .store 1 (.tmp 12) (.tmp 48)⟩])) env σ n lk Q := rfl
structure J10 (env : Nat → V) (ids : List Int) (j : Nat) (σ : Sto) (n : Nat) : Prop where
 hn : 3 ≤ n
 s2 : σ 2 = some (.loop env [44] ask10 bd13 .ready none)
 s1 : ∃ v, σ 1 = some (.row 1 [v]) ∧ Pl σ 3 n 1 v (oL ((ids.take j).map iV))
theorem J10.frame {env : Nat → V} {ids : List Int} {j : Nat} {σ σ' : Sto} {n n' : Nat} (h : J10 env ids j σ n) (hn : n ≤ n') (hs : ∀ i, i < n → σ' i = σ i) : J10 env ids j σ' n' := by
 obtain ⟨h1, h2, v, h3, h4⟩ := h
 exact ⟨by omega, by rw [hs 2 (by omega), h2], v, by rw [hs 1 (by omega), h3], h4.loc (fun i a b => hs i b) hn⟩
theorem hy13 (env : Nat → V) (ids : List Int) (he : env 12 = .ptr 1 1 0 0) (j : Nat) (hj : j < ids.length) (hI : ids.length < 1000000) (x : Int) (hx : ids[j] = x) (σ : Sto) (n : Nat) (hJ : J10 env ids j σ n) (hn : 2 < n) :
 yieldW (run T) 2 [.int .i64 x] σ n 0 (fun y σ' n' => n ≤ n' ∧ y = .bool true ∧ J10 env ids (j + 1) σ' n') := by
 obtain ⟨h1, h2, v, h3, h4⟩ := hJ
 refine yieldW_gs h2 rfl (Nat.zero_le _) ?_
 have q0 : (2 = n) = False := by simp; omega
 have q1 : (n = 2) = False := by simp; omega
 have p2 : (1 = n) = False := by simp; omega
 have hc := h4.cells
 have ho := h4.one
 simp +contextual -implicitDefEqProofs (maxSteps := 2000000) only [↓wP, wS, seval, bind_cons, bind_nil, w_ask10, w_bd13, he, h2, h3, q0, q1, p2, hc]
 have hlen : ((ids.take j).map iV).length = j := by rw [List.length_map, List.length_take]; omega
 refine stepW_app1 (m := 3) (n0 := n) (σ0 := σ) (o := oL ((ids.take j).map iV)) h4 (fun i g1 g2 => ?_) (by omega) (by omega) (Nat.zero_le _) ?_ (fun _ σ2 g1 g2 => ?_)
 ·have a1 : i ≠ n := by omega
  have a2 : i ≠ 2 := by omega
  simp [upd, a1, a2]
 ·rw [lst_oL, hlen]; unfold LIM; omega
 ·rw [lst_oL, hlen] at g1 ⊢
  have hv : ∀ i, i < 3 → ∀ off len s, v ≠ .ref i off len s := by
   intro i hi off len s e
   subst e
   cases ho' : oL ((ids.take j).map iV) with
   | none => rw [ho'] at h4; simp only [Pl] at h4; cases h4
   | some xs => rw [ho'] at h4; obtain ⟨j, e, -, e2, -⟩ := h4; simp only [V.ref.injEq] at e; omega
  have t1 : σ2 1 = some (.row 1 [v]) := by rw [g2 1 (by omega) (hv 1 (by omega))]; simp [upd, p2, h3]
  have t2 : σ2 2 = some (.loop env [44] ask10 bd13 .busy none) := by rw [g2 2 (by omega) (hv 2 (by omega))]; simp [upd, q0]
  have hsp : ∀ c, spliceC v 0 [c] = c := fun c => by
   cases ho' : oL ((ids.take j).map iV) with
   | none => rw [ho'] at h4; simp only [Pl] at h4; subst h4; rfl
   | some xs => rw [ho'] at h4; obtain ⟨j, rfl, -⟩ := h4; rfl
  simp +contextual -implicitDefEqProofs (maxSteps := 2000000) only [↓wP, wS, seval, he, t1, t2, hsp]
  have eo : oL ((ids.take (j + 1)).map iV) = some ((ids.take j).map iV ++ [.int .i64 x]) := by
   rw [show ids.take (j + 1) = ids.take j ++ [ids[j]] from (List.take_append_getElem hj).symm, List.map_append, hx]
   cases ids.take j <;> rfl
  refine .inl ⟨by omega, by omega, ?_, .ref (n + 1) 0 (j + 1) 1, ?_, ?_⟩
  ·simp [upd]
  ·simp [upd]
  ·rw [eo]
   exact g1.loc (fun i a1 a2 => by
    have b1 : i ≠ 1 := by omega
    have b2 : i ≠ 2 := by omega
    simp [upd, b1, b2]) (Nat.le_refl _)
theorem near_len (q : Vc) (c : List Vc) (m : Int) (hm : 0 ≤ m) : (near q c m).length = min m.toNat c.length := by
 unfold near; rw [List.length_map, List.length_take, srt_len, ctH_len]
theorem ct_id {q : Vc} {c : List Vc} {h : Hit} (hh : h ∈ srt (ctH q c 0)) : 0 ≤ h.id ∧ h.id < c.length := by
 have := (srt_perm _).mem_iff.1 hh
 obtain ⟨p, hp, rfl⟩ := List.mem_map.1 this
 have := List.mem_zipIdx hp
 simp only
 omega
theorem WC_env {T : Tab} {c : AC} {env : Nat → V} {σ : Sto} {n lk : Nat} {Q : Ex → St → Prop} (h : ∀ e, e = env → WC T c e σ n lk Q) : WC T c env σ n lk Q := h _ rfl
theorem r13 (c : Option (List Vc)) (v : Vc) (m : Int) (hl : (lst c).length ≤ 7) (hv : ∀ v ∈ lst c, Sm v) (hv' : Sm v) : res T 13 [slV 1 vecV c, slV 1 i32V v, .int .i64 m] = some (.tup [ownI (if nrE c v m = 0 then near v (lst c) m else []), .int .i64 (nrE c v m)]) := by
 refine run_res (run_own (fn := g13) rfl rfl (by decide) ?_)
 simp only [g13, b13, zO, zN, zM, zL, zG, zP, zQ, zI, zA, zT, zF, zB, zC, zD, zE, zH, zJ, zK]
 have f1 := f35 m
 have f2 := f36 v hv'
 have f3 := f27 c hl hv
 by_cases ha : askE m = 0
 ·have hm : 1 ≤ m := by unfold askE at ha; split at ha; cases ha; omega
  cases ho : okV v
  ·rw [ho] at f2
   rw [ha] at f1
   have e : nrE c v m = 150 := by unfold nrE; rw [if_neg (by omega), ho]; rfl
   rw [e]
   simp +contextual -implicitDefEqProofs (maxSteps := 2000000) only [↓wP, wQ, wQ1, wQ2, wQ3, wR, boxE, partsOf, ↓reduceIte, n1w, n2w, n3w, n4w, n5w, n6w, reduceCtorEq, i1w, i2w, i3w, i4w, i5w, f1, f2]
   exact giv_none _ (by decide) _
  ·rw [ho] at f2
   have e : nrE c v m = cnE c v := by unfold nrE; rw [if_neg (by omega), ho]; rfl
   rw [e]
   rw [ha] at f1
   by_cases ht : trE c = 0
   ·rw [ht] at f3
    have hne : lst c ≠ [] := by intro h; unfold trE at ht; rw [if_pos h] at ht; cases ht
    have hc : cents c = true := by
     unfold trE at ht; rw [if_neg hne] at ht
     cases h : cents c
     ·rw [h] at ht; cases ht
     ·rfl
    obtain ⟨v0, hv0, hd⟩ := dm_get hne
    by_cases hx : dm c = (lst v).length
    ·have hx' : (((lst v0).length : Int) != ((lst v).length : Int)) = false := by rw [← hd, hx]; simp
     have r := r32 v 0 0 m c hc hv hv' ho hx hne
     have f32 := callE_tr (by decide) r (by simp [srcV, Tr, Tr_slV]) (by simp [srcV, Nw])
     have e1 : cnE c v = 0 := by unfold cnE; rw [if_neg (by omega), if_pos hx]
     rw [e1]
     simp only [srcV] at f32
     simp +contextual -implicitDefEqProofs (maxSteps := 2000000) only [↓wP, wQ, wQ1, wQ2, wQ3, wR, boxE, partsOf, ↓reduceIte, n1w, n2w, n3w, n4w, n5w, n6w, reduceCtorEq, i1w, i2w, i3w, i4w, i5w, f1, f2, f3, hv0, vecV_eq, hx', f32]
     refine WC_env fun env hE => ?_
     have e43 : env 43 = .fn 68 [.box [.sl 2 (hs (srt (ctH v (lst c) 0)))], .box (srcV v 0 0 m c)] := by rw [hE]; rfl
     have e12 : env 12 = .ptr 1 1 0 0 := by rw [hE]; rfl
     clear hE
     have hlen : (srt (ctH v (lst c) 0)).length = (lst c).length := by rw [srt_len, ctH_len]
     have hnl : (near v (lst c) m).length = min m.toNat (lst c).length := near_len _ _ _ (by omega)
     refine WC_rangeF (f := 68) (caps := _) e43 (Nat.zero_le _) ?_
     refine run_mono _ _ _ (fun o ho => ?_) (iter48 v 0 0 m c (srt (ctH v (lst c) 0)) 2 (fun j σ n => J10 env (near v (lst c) m) j σ n) _ 3 (by omega) (by omega) (fun h hh => by have := ct_id hh; omega) (by omega) ?_ ?_ ?_)
     ·cases o <;> try exact ho.elim
      rename_i vv σ' n'
      obtain ⟨h1, h2, u, h3, h4⟩ := ho
      refine ⟨_, _, _, _, _, _, h2, by decide, ?_⟩
      rw [hlen, ← hnl, List.take_length] at h4
      have t1 : upd σ' 2 none 1 = some (.row 1 [u]) := by simp [upd, h3]
      have hc := h4.cells
      have hp := h4.loc (σ' := upd σ' 2 none) (fun i a b => by
       have : i ≠ 2 := by omega
       simp [upd, this]) (Nat.le_refl _)
      have ho := h4.one
      have hg := iV_giv hp
      simp +contextual -implicitDefEqProofs (maxSteps := 2000000) only [↓wP, wQ, wQ1, wQ2, wQ3, wR, boxE, partsOf, ↓reduceIte, n1w, n2w, n3w, n4w, n5w, n6w, reduceCtorEq, i1w, i2w, i3w, i4w, i5w, Option.getD_none, e12, h3, hc, ho]
      exact giv_tup2 hg rfl rfl
     ·exact fun j σ n σ' n' h a b => h.frame a b
     ·intro j hj σ n hjm hJ hn
      have hj2 : j < (near v (lst c) m).length := by omega
      exact hy13 env _ e12 j hj2 (by omega) _ (by simp [near]) σ n hJ hn
     ·exact ⟨by omega, by rfl, .nilS, by simp [upd], by simp [oL, Pl]⟩
    ·have hx' : (((lst v0).length : Int) != ((lst v).length : Int)) = true := by rw [← hd]; simp; omega
     have e1 : cnE c v = 151 := by unfold cnE; rw [if_neg (by omega), if_neg hx]
     rw [e1]
     simp +contextual -implicitDefEqProofs (maxSteps := 2000000) only [↓wP, wQ, wQ1, wQ2, wQ3, wR, boxE, partsOf, ↓reduceIte, n1w, n2w, n3w, n4w, n5w, n6w, reduceCtorEq, i1w, i2w, i3w, i4w, i5w, f1, f2, f3, hv0, vecV_eq, hx']
     exact giv_none _ (by decide) _
   ·have ht' : (trE c != 0) = true := by simpa using ht
    have e1 : cnE c v = trE c := by unfold cnE; rw [if_pos ht]
    rw [e1]
    simp +contextual -implicitDefEqProofs (maxSteps := 2000000) only [↓wP, wQ, wQ1, wQ2, wQ3, wR, boxE, partsOf, ↓reduceIte, n1w, n2w, n3w, n4w, n5w, n6w, reduceCtorEq, i1w, i2w, i3w, i4w, i5w, f1, f2, f3, ht']
    exact giv_none _ ht _
 ·have ha' : (askE m != 0) = true := by simpa using ha
  have e : nrE c v m = askE m := by unfold nrE; rw [if_pos ha]
  rw [e]
  simp +contextual -implicitDefEqProofs (maxSteps := 2000000) only [↓wP, wQ, wQ1, wQ2, wQ3, wR, boxE, partsOf, ↓reduceIte, n1w, n2w, n3w, n4w, n5w, n6w, reduceCtorEq, i1w, i2w, i3w, i4w, i5w, f1, ha']
  exact giv_none _ ha _
end Go.Q.SD
end

section
/- The nearest centroids: what the document says. -/
namespace Go.Q.SD
open Go.Q Go.Sort
def bst (out : List Int) (D : Nat → Int) : Nat → Int
 | 0 => -1
 | i + 1 => if (i : Int) ∈ out then bst out D i else if 0 ≤ bst out D i ∧ D (bst out D i).toNat ≤ D i then bst out D i else i
theorem bst_spec (out : List Int) (D : Nat → Int) : ∀ i, (bst out D i = -1 ∧ ∀ i' < i, (i' : Int) ∈ out) ∨ ∃ b : Nat, bst out D i = b ∧ b < i ∧ (b : Int) ∉ out ∧ ∀ i' < i, (i' : Int) ∉ out → D b < D i' ∨ (D b = D i' ∧ b ≤ i')
 | 0 => .inl ⟨rfl, fun i' h => by omega⟩
 | i + 1 => by
   unfold bst
   by_cases hm : (i : Int) ∈ out
   ·rw [if_pos hm]
    rcases bst_spec out D i with ⟨h1, h2⟩ | ⟨b, h1, h2, h3, h4⟩
    ·refine .inl ⟨h1, fun i' h => ?_⟩
     by_cases hi : i' = i
     ·subst hi; exact hm
     ·exact h2 i' (by omega)
    ·refine .inr ⟨b, h1, by omega, h3, fun i' h hn => ?_⟩
     by_cases hi : i' = i
     ·subst hi; exact absurd hm hn
     ·exact h4 i' (by omega) hn
   ·rw [if_neg hm]
    rcases bst_spec out D i with ⟨h1, h2⟩ | ⟨b, h1, h2, h3, h4⟩
    ·rw [h1, if_neg (by omega)]
     refine .inr ⟨i, rfl, by omega, hm, fun i' h hn => ?_⟩
     by_cases hi : i' = i
     ·subst hi; exact .inr ⟨rfl, Nat.le_refl _⟩
     ·exact absurd (h2 i' (by omega)) hn
    ·rw [h1]
     by_cases hd : D b ≤ D i
     ·rw [if_pos ⟨by omega, by simpa using hd⟩]
      refine .inr ⟨b, rfl, by omega, h3, fun i' h hn => ?_⟩
      by_cases hi : i' = i
      ·subst hi; omega
      ·exact h4 i' (by omega) hn
     ·rw [if_neg (by rintro ⟨-, h⟩; exact hd (by simpa using h))]
      refine .inr ⟨i, rfl, by omega, hm, fun i' h hn => ?_⟩
      by_cases hi : i' = i
      ·subst hi; exact .inr ⟨rfl, Nat.le_refl _⟩
      ·have := h4 i' (by omega) hn; omega
def dis (q : Vc) (c : List Vc) (i : Nat) : Int := distI ((c[i]?).getD none) q
end Go.Q.SD
end

section
/- The nearest centroids: the document's walk. -/
namespace Go.Q.SD
open Go.Q Go.Sort
end Go.Q.SD
end

section
/- Vectors that can be gone through. -/
namespace Go.Q.SD
open Go.Q Go.Sort
theorem r14 (v : Vc) (hv : Sm v) : res T 14 [slV 1 i32V v] = some (slV 1 i32V (some ((lst v).take 5))) := by
 refine run_res (run_pure (fn := g14) rfl rfl (by decide) ?_)
 simp only [g14, b14, zO, zN, zM, zL, zG, zP, zQ, zI, zA, zT, zF, zB, zC, zD, zE, zH, zJ, zK]
 obtain ⟨N, hN⟩ : ∃ N, N = min (lst v).length 5 := ⟨_, rfl⟩
 have hmin : (if (5 : Int) < ((lst v).length : Int) then (5 : Int) else ((lst v).length : Int)) = (N : Int) := by split <;> omega
 unfold Sm at hv
 have hNl : N ≤ (lst v).length := by omega
 have hs : lst (sub v 0 N) = (lst v).take 5 := by
  rw [show (lst v).take 5 = (lst v).take N by rw [hN]; exact (List.take_eq_take_min).trans (by rw [Nat.min_comm])]
  cases v <;> simp [sub, lst]
 have hl5 : ((lst v).take 5).length ≤ 5 := by rw [List.length_take]; omega
 have hL : (((lst v).take 5).map i32V).length * 4 ≤ LIM := by rw [List.length_map]; unfold LIM; omega
 generalize (lst v).take 5 = L at *
 simp +contextual -implicitDefEqProofs (maxSteps := 2000000) only [↓wP, wS, seval, hmin, hNl, hs, hL, true_or]
 have e1 : elems (upd (upd (upd Sto.empty 0 (some (Ob.row 1 []))) 0 none) 1 (some (Ob.row 1 (L.map i32V)))) 1 (.ref 1 0 (L.map i32V).length 1) = some (L.map i32V) := by simp [elems, upd]; exact List.take_of_length_le (by simp)
 show (elems _ _ _).bind _ = _
 rw [e1, Option.bind_some, mapM_id (fun x hx => by obtain ⟨y, -, rfl⟩ := List.mem_map.1 hx; rfl)]
 rfl
def cut (v : Vc) : Vc := some ((lst v).take 5)
theorem f14 (v : Vc) (hv : Sm v) (fs : Bool) (σ : Sto) (n lk : Nat) : callE T fs 14 [slV 1 i32V v] σ n lk = some (slV 1 i32V (cut v), σ, n) :=
 callE_tr (by decide) (r14 v hv) (by simp [Tr, Tr_slV]) (Nw_slV _ _ _ _) fs σ n lk
theorem spl {σ : Sto} {m n sz : Nat} {v : V} {o : Option (List V)} (h : Pl σ m n sz v o) (c : V) : spliceC v 0 [c] = c := by
 cases o with
 | none => simp only [Pl] at h; subst h; rfl
 | some xs => obtain ⟨j, rfl, -⟩ := h; rfl
def cutV (l : Option (List Vc)) : Option (List Vc) := oL (((lst l).take 7).map cut)
theorem r8 (l : Option (List Vc)) (hl : (lst l).length < 4611686018427387904) (hv : ∀ v ∈ lst l, Sm v) : res T 8 [slV 1 vecV l] = some (slV 1 vecV (cutV l)) := by
 refine run_res (run_pure (fn := g8) rfl rfl (by decide) ?_)
 simp only [g8, b8, zO, zN, zM, zL, zG, zP, zQ, zI, zA, zT, zF, zB, zC, zD, zE, zH, zJ, zK]
 simp +contextual -implicitDefEqProofs (maxSteps := 2000000) only [↓wP, wS, seval]
 refine WC_for (lst l).length 0 (fun (j : Nat) env σ n => env 6 = slV 1 vecV l ∧ ∃ v, env 3 = v ∧ Pl σ 0 n 1 v (oL ((((lst l).take (min j 7)).map cut).map vecV))) (by omega) (by decide) (by decide) (fun _ _ => rfl) (fun _ _ _ => rfl) ?_ ?_ _ _ _ rfl rfl ?_
 ·intro j env σ n hj h1 h2 ⟨h3, v, h4, h5⟩
  simp only [vl_tmp] at h2
  have hx : (lst l)[j]? = some (lst l)[j] := List.getElem?_eq_getElem hj
  have f := f14 _ (hv _ (List.getElem_mem hj))
  have ht : (lst l).take (j + 1) = (lst l).take j ++ [(lst l)[j]] := (List.take_append_getElem hj).symm
  generalize (lst l)[j] = x at *
  have hc := h5.cells
  have ho := h5.one
  have hsp := spl h5
  by_cases h6 : (j : Int) ≤ 6
  ·rw [show min j 7 = j by omega] at h5
   have hlen : ((((lst l).take j).map cut).map vecV).length = j := by rw [List.length_map, List.length_map, List.length_take]; omega
   simp +contextual -implicitDefEqProofs (maxSteps := 2000000) only [↓wP, wS, seval, h1, h2, h3, h4, hx, vecV_eq, h6, f]
   refine stepW_app1 (m := 0) (n0 := n) (σ0 := σ) h5 (fun i g1 g2 => ?_) (by omega) (by omega) (Nat.zero_le _) ?_ (fun _ σ2 g1 g2 => ?_)
   ·have a1 : i ≠ n := by omega
    simp [upd, a1]
   ·rw [lst_oL, hlen]; unfold LIM; omega
   ·rw [lst_oL, hlen] at g1 ⊢
    simp +contextual -implicitDefEqProofs (maxSteps := 2000000) only [↓wP, wS, seval, h1, h2, h3, hc, hsp]
    refine ⟨_, rfl, ?_⟩
    rw [show min (j + 1) 7 = j + 1 by omega, ht, List.map_append, List.map_append]
    have eo : oL (((lst l).take j).map cut |>.map vecV) = oL (((lst l).take j).map cut |>.map vecV) := rfl
    have e2 : oL ((((lst l).take j).map cut).map vecV ++ [vecV (cut x)]) = some ((((lst l).take j).map cut).map vecV ++ [vecV (cut x)]) := by
     cases ((lst l).take j) <;> rfl
    simp only [List.map_cons, List.map_nil]
    rw [e2]
    exact g1
  ·simp +contextual -implicitDefEqProofs (maxSteps := 2000000) only [↓wP, wS, seval, h1, h2, h3, h4, hx, vecV_eq, h6]
   rw [show min (j + 1) 7 = min j 7 by omega]
   exact ⟨_, rfl, h5⟩
 ·intro env σ n ⟨h3, v, h4, h5⟩ h1 h2
  simp +contextual -implicitDefEqProofs (maxSteps := 2000000) only [↓wP, wS, seval, h4]
  have hf := h5.frz (fun x hx => by rw [lst_oL] at hx; obtain ⟨y, -, rfl⟩ := List.mem_map.1 hx; exact Tr_slV _ _ _ _) (fun x hx c hc => by
   rw [lst_oL] at hx; obtain ⟨y, -, rfl⟩ := List.mem_map.1 hx
   rw [vecV_eq, cl_slV, List.mem_singleton] at hc
   subst hc; exact Tr_slV _ _ _ _)
  rw [hf, slV_oL]
  have : (lst l).take (min (lst l).length 7) = (lst l).take 7 := by rw [Nat.min_comm]; exact List.take_eq_take_min.symm
  rw [this]; rfl
 ·simp +contextual -implicitDefEqProofs (maxSteps := 2000000) only [↓wP, wS, seval]
  simp [oL, Pl]
def f8 (l : Option (List Vc)) (hl : (lst l).length < 4611686018427387904) (hv : ∀ v ∈ lst l, Sm v) := callE_tr (by decide) (r8 l hl hv) (by simp [Tr, Tr_slV]) (Nw_slV _ _ _ _)
theorem cut_sm (v : Vc) : Sm (cut v) := by unfold Sm cut; rw [lst_some, List.length_take]; omega
theorem cutV_len (l : Option (List Vc)) : (lst (cutV l)).length ≤ 7 := by unfold cutV; rw [lst_oL, List.length_map, List.length_take]; omega
theorem cutV_sm (l : Option (List Vc)) : ∀ v ∈ lst (cutV l), Sm v := by
 intro v hv
 unfold cutV at hv
 rw [lst_oL] at hv
 obtain ⟨x, -, rfl⟩ := List.mem_map.1 hv
 exact cut_sm x
theorem f13 (c : Option (List Vc)) (v : Vc) (m : Int) (hl : (lst c).length ≤ 7) (hv : ∀ v ∈ lst c, Sm v) (hv' : Sm v) (fs : Bool) (σ : Sto) (n lk : Nat) :
 ∃ L, L = (if nrE c v m = 0 then near v (lst c) m else []) ∧ callE T fs 13 [slV 1 vecV c, slV 1 i32V v, .int .i64 m] σ n lk = some (.tup [iVal n L, .int .i64 (nrE c v m)], iSto σ n L, iN n L) := by
 refine ⟨_, rfl, ?_⟩
 have r := r13 c v m hl hv hv'
 have e : [slV 1 vecV c, slV 1 i32V v, .int .i64 m].mapM (frz σ 12) = some [slV 1 vecV c, slV 1 i32V v, .int .i64 m] := by
  simp only [List.mapM_cons, List.mapM_nil, frz_slV, frz_int]; rfl
 rw [callE_flat (by decide) e r (flat_tup2 (flat_ownI _) rfl), thaw_tup, thawL_cons, thaw_ownI]
 rfl
end Go.Q.SD
end

section
/- The law of the nearest centroids. -/
namespace Go.Q.SD
open Go.Q Go.Sort
theorem nr0 {c : Option (List Vc)} {v : Vc} {m : Int} (h : nrE c v m = 0) : 1 ≤ m ∧ okV v = true ∧ cents c = true ∧ dm c = (lst v).length ∧ lst c ≠ [] := by
 unfold nrE at h
 by_cases ha : askE m = 0
 ·rw [if_neg (by omega)] at h
  have hm : 1 ≤ m := by unfold askE at ha; split at ha; cases ha; omega
  cases ho : okV v
  ·rw [ho] at h; cases h
  ·rw [ho, if_pos rfl] at h
   unfold cnE at h
   by_cases ht : trE c = 0
   ·rw [if_neg (by omega)] at h
    have hne : lst c ≠ [] := by intro h; unfold trE at ht; rw [if_pos h] at ht; cases ht
    have hc : cents c = true := by
     unfold trE at ht; rw [if_neg hne] at ht
     cases h : cents c
     ·rw [h] at ht; cases ht
     ·rfl
    by_cases hd : dm c = (lst v).length
    ·exact ⟨hm, rfl, hc, hd, hne⟩
    ·rw [if_neg hd] at h; cases h
   ·rw [if_pos ht] at h; exact absurd h ht
 ·rw [if_pos ha] at h; exact absurd h ha
theorem cents_mem {c : Option (List Vc)} (hc : cents c = true) : ∀ x ∈ lst c, okV x = true ∧ (lst x).length = dm c := by
 unfold cents at hc
 simp only [Bool.and_eq_true, decide_eq_true_eq] at hc
 intro v hv
 have := List.all_eq_true.1 hc.2 v hv
 simpa [okC] using this
theorem cents_len {c : Option (List Vc)} (hc : cents c = true) : (lst c).length ≤ 6 := by
 unfold cents at hc; simp only [Bool.and_eq_true, decide_eq_true_eq] at hc; exact hc.1
theorem nr_two {c : Option (List Vc)} {v : Vc} (hc : cents c = true) (ho : okV v = true) (hd : dm c = (lst v).length) : ∀ x ∈ lst c, Two x v :=
 fun x hx => ⟨(cents_mem hc x hx).1, ho, by rw [(cents_mem hc x hx).2, hd]⟩
end Go.Q.SD
end

section
/- Rows; whether they may be; queries. -/
namespace Go.Q.SD
open Go.Q Go.Sort
def qE (v : Option (List Int)) (k : Int) : Int := if k < 1 then 2 else if 16 < k then 2 else if okV v then 0 else 150
theorem r49 (v : Option (List Int)) (k : Int) (hv : (lst v).length < 9223372036854775808) : res T 49 [.agg [slV 1 i32V v, .int .i64 k]] = some (.int .i64 (qE v k)) := by
 refine run_res (run_pure (fn := g49) rfl rfl (by decide) ?_)
 simp only [g49, b49, zO, zN, zM, zL, zG, zP, zQ, zI, zA, zT, zF, zB, zC, zD, zE, zH, zJ, zK]
 have f := f36 v hv
 by_cases h1 : k < 1
 ·simp +contextual -implicitDefEqProofs (maxSteps := 2000000) only [↓wP, wS, seval, h1, qE]
 ·by_cases h2 : 16 < k
  ·simp +contextual -implicitDefEqProofs (maxSteps := 2000000) only [↓wP, wS, seval, h1, h2, qE]
  ·cases ho : okV v
   ·rw [ho] at f
    simp +contextual -implicitDefEqProofs (maxSteps := 2000000) only [↓wP, wS, seval, h1, h2, qE, f, ho]
   ·rw [ho] at f
    simp +contextual -implicitDefEqProofs (maxSteps := 2000000) only [↓wP, wS, seval, h1, h2, qE, f, ho]
def f49 (v : Option (List Int)) (k : Int) (hv : (lst v).length < 9223372036854775808) := callE_tr (by decide) (r49 v k hv) (by simp [Tr, Tr_slV]) rfl
structure Rw where
 id : Int
 v : Option (List Int)
def rwV (r : Rw) : V := .agg [.int .u64 r.id, slV 1 i32V r.v]
theorem rwV_eq (r : Rw) : rwV r = .agg [.int .u64 r.id, slV 1 i32V r.v] := rfl
theorem qE_ok {q : Option (List Int)} {k : Int} (h : qE q k = 0) : okV q = true ∧ 1 ≤ k ∧ k ≤ 16 := by
 unfold qE at h
 split at h
 ·cases h
 ·split at h
  ·cases h
  ·split at h
   ·rename_i h1 h2 h3; exact ⟨h3, by omega, by omega⟩
   ·cases h
theorem r30 (id : Int) (v : Option (List Int)) (hv : (lst v).length < 9223372036854775808) : res T 30 [.agg [.int .u64 id, slV 1 i32V v]] = some (.int .i64 (if okV v then 0 else 170)) := by
 refine run_res (run_pure (fn := g30) rfl rfl (by decide) ?_)
 simp only [g30, b30, zO, zN, zM, zL, zG, zP, zQ, zI, zA, zT, zF, zB, zC, zD, zE, zH, zJ, zK]
 have f := f36 v hv
 cases ho : okV v
 ·rw [ho] at f
  simp +contextual -implicitDefEqProofs (maxSteps := 2000000) only [↓wP, wS, seval, f, ho]
 ·rw [ho] at f
  simp +contextual -implicitDefEqProofs (maxSteps := 2000000) only [↓wP, wS, seval, f, ho]
def f30 (id : Int) (v : Option (List Int)) (hv : (lst v).length < 9223372036854775808) := callE_tr (by decide) (r30 id v hv) (by simp [Tr, Tr_slV]) rfl
def okR (r : Rw) : Bool := okV r.v
theorem r29 (id : Int) (v : Option (List Int)) (hv : (lst v).length < 9223372036854775808) : res T 29 [.agg [.int .u64 id, slV 1 i32V v]] = some (.bool (!okV v)) := by
 refine run_res (run_pure (fn := g29) rfl rfl (by decide) ?_)
 simp only [g29, b29, zO, zN, zM, zL, zG, zP, zQ, zI, zA, zT, zF, zB, zC, zD, zE, zH, zJ, zK]
 have f := f30 id v hv
 cases ho : okV v
 ·rw [ho] at f
  simp +contextual -implicitDefEqProofs (maxSteps := 2000000) only [↓wP, wS, seval, f, ho]
 ·rw [ho] at f
  simp +contextual -implicitDefEqProofs (maxSteps := 2000000) only [↓wP, wS, seval, f, ho]
def f29 (id : Int) (v : Option (List Int)) (hv : (lst v).length < 9223372036854775808) := callE_tr (by decide) (r29 id v hv) (by simp [Tr, Tr_slV]) rfl
theorem r31 (id : Int) (v : Option (List Int)) (d : Int) : res T 31 [.agg [.int .u64 id, slV 1 i32V v], .box [.int .i64 d]] = some (.bool (((lst v).length : Int) != d)) := by
 refine run_res (run_pure (fn := g31) rfl rfl (by decide) ?_)
 simp only [g31, b31, zO, zN, zM, zL, zG, zP, zQ, zI, zA, zT, zF, zB, zC, zD, zE, zH, zJ, zK]
 simp +contextual -implicitDefEqProofs (maxSteps := 2000000) only [↓wP, wS, seval]
def f31 (id : Int) (v : Option (List Int)) (d : Int) := callE_tr (by decide) (r31 id v d) (by simp [Tr, Tr_slV]) rfl
theorem r50g (o : Option (List Rw)) (F : Nat) (caps : List V) (p : Rw → Bool) (hl : (lst o).length < 9223372036854775808) (hp : ∀ x ∈ lst o, ∀ fs σ n lk, callE T fs F (.agg [.int .u64 x.id, slV 1 i32V x.v] :: caps) σ n lk = some (.bool (p x), σ, n)) :
 res T 62 [slV 2 rwV o, .fn F caps] = some (.int .i64 (idxF p (lst o))) := by
 refine run_res (run_pure (fn := g62) rfl rfl (by decide) ?_)
 simp only [g62, b62, zO, zN, zM, zL, zG, zP, zQ, zI, zA, zT, zF, zB, zC, zD, zE, zH, zJ, zK]
 simp +contextual -implicitDefEqProofs (maxSteps := 2000000) only [↓wP, wS, seval]
 refine WC_for (lst o).length 0 (fun (j : Nat) env _ _ => env 0 = slV 2 rwV o ∧ env 1 = .fn F caps ∧ (lst o).findIdx? p = (((lst o).drop j).findIdx? p).map (· + j)) (by omega) (by decide) (by decide) (fun _ _ => rfl) (fun _ _ _ => rfl) ?_ ?_ _ _ _ rfl rfl ?_
 ·intro j env σ n hj h1 h2 ⟨h3, h4, h5⟩
  simp only [vl_tmp] at h2
  have hx : (lst o)[j]? = some (lst o)[j] := List.getElem?_eq_getElem hj
  have hp' := hp (lst o)[j] (List.getElem_mem hj)
  simp +contextual -implicitDefEqProofs (maxSteps := 2000000) only [↓wP, wS, seval, h1, h2, h3, h4, hx, rwV_eq, hp']
  rw [List.drop_eq_getElem_cons hj, List.findIdx?_cons] at h5
  refine condC_split (fun hb => ?_) (fun hb => ?_)
  ·simp +contextual -implicitDefEqProofs (maxSteps := 2000000) only [↓wP, wS, seval]
   simp [idxF, h5, hb]
  ·simp +contextual -implicitDefEqProofs (maxSteps := 2000000) only [↓wP, wS, seval, h1, h2, h3, h4]
   rw [h5, hb]
   simp only [Bool.false_eq_true, if_false, Option.map_map, Function.comp_def]
   congr 1; funext i; omega
 ·intro env σ n ⟨h3, h4, h5⟩ h1 h2
  simp +contextual -implicitDefEqProofs (maxSteps := 2000000) only [↓wP, wS, seval]
  simp [idxF, h5]
 ·exact ⟨rfl, rfl, by simp⟩
theorem r30g (o : Option (List Rw)) (F : Nat) (caps : List V) (p : Rw → Bool) (hl : (lst o).length < 9223372036854775808) (hc : caps.all (Tr 11) = true) (hp : ∀ x ∈ lst o, ∀ fs σ n lk, callE T fs F (.agg [.int .u64 x.id, slV 1 i32V x.v] :: caps) σ n lk = some (.bool (p x), σ, n)) :
 res T 28 [slV 2 rwV o, .fn F caps] = some (.bool ((lst o).any p)) := by
 refine run_res (run_pure (fn := g28) rfl rfl (by decide) ?_)
 simp only [g28, b28, zO, zN, zM, zL, zG, zP, zQ, zI, zA, zT, zF, zB, zC, zD, zE, zH, zJ, zK]
 have h := callE_tr (by decide) (r50g o F caps p hl hp) (by simp [Tr, Tr_slV]; exact fun x hx => List.all_eq_true.1 hc x hx) rfl
 simp +contextual -implicitDefEqProofs (maxSteps := 2000000) only [↓wP, wS, seval, h, idxF_any]
def chkE (q : Vc) (k n : Int) : Int := if k < 1 then 2 else if 16 < k then 2 else if askE n ≠ 0 then askE n else if okV q then 0 else 150
theorem r20 (q : Vc) (k t m : Int) (hq : Sm q) : res T 20 [.agg [slV 1 i32V q, .int .i64 k, .int .u64 t, .int .i64 m]] = some (.int .i64 (chkE q k m)) := by
 refine run_res (run_pure (fn := g20) rfl rfl (by decide) ?_)
 simp only [g20, b20, zO, zN, zM, zL, zG, zP, zQ, zI, zA, zT, zF, zB, zC, zD, zE, zH, zJ, zK]
 have h1 := f49 q k hq
 have h2 := f35 m
 unfold chkE
 by_cases k1 : k < 1
 ·simp +contextual -implicitDefEqProofs (maxSteps := 2000000) only [↓wP, wS, seval, k1]
 ·by_cases k2 : 16 < k
  ·simp +contextual -implicitDefEqProofs (maxSteps := 2000000) only [↓wP, wS, seval, k1, k2]
  ·by_cases ha : askE m = 0
   ·have e : qE q k = if okV q then 0 else 150 := by unfold qE; rw [if_neg k1, if_neg k2]
    rw [e] at h1
    rw [ha] at h2
    rw [if_neg (show ¬ askE m ≠ 0 by omega)]
    simp +contextual -implicitDefEqProofs (maxSteps := 2000000) only [↓wP, wS, seval, k1, k2, h1, h2, ha]
   ·have hb : (askE m != 0) = true := by simpa using ha
    rw [if_pos ha]
    simp +contextual -implicitDefEqProofs (maxSteps := 2000000) only [↓wP, wS, seval, k1, k2, h2, ha, hb]
def f20 (q : Vc) (k t m : Int) (hq : Sm q) := callE_tr (by decide) (r20 q k t m hq) (by simp [Tr, Tr_slV]) rfl
end Go.Q.SD
end

section
/- The nearest vector. -/
namespace Go.Q.SD
open Go.Q Go.Sort
theorem f52g (v : Vc) (o : Option (List Vc)) (hne : lst o ≠ []) (fs : Bool) (σ : Sto) (n lk : Nat) : callE T fs 76 [slV 1 i32V v, .box [slV 1 vecV o]] σ n lk = some (.bool (((lst v).length : Int) != ((dm o : Nat) : Int)), σ, n) := by
 refine callE_tr (by decide) ?_ (by simp [Tr, Tr_slV]) rfl fs σ n lk
 refine run_res (run_pure (fn := g76) rfl rfl (by decide) ?_)
 simp only [g76, b76, zO, zN, zM, zL, zG, zP, zQ, zI, zA, zT, zF, zB, zC, zD, zE, zH, zJ, zK]
 obtain ⟨v0, h0, hd⟩ := dm_get hne
 rw [hd]
 simp +contextual -implicitDefEqProofs (maxSteps := 2000000) only [↓wP, wS, seval, h0, vecV_eq]
theorem r53h (c : Option (List Vc)) (hl : (lst c).length < 9223372036854775808) : res T 42 [slV 1 vecV c, .fn 76 [.box [slV 1 vecV c]]] = some (.bool ((lst c).any fun v => ((lst v).length : Int) != ((dm c : Nat) : Int))) := by
 refine run_res (run_pure (fn := g42) rfl rfl (by decide) ?_)
 simp only [g42, b42, zO, zN, zM, zL, zG, zP, zQ, zI, zA, zT, zF, zB, zC, zD, zE, zH, zJ, zK]
 have h := callE_tr (by decide) (r65g c 76 [.box [slV 1 vecV c]] (fun v => ((lst v).length : Int) != ((dm c : Nat) : Int)) hl (fun x hx fs σ n lk => f52g x c (fun h => by rw [h] at hx; simp at hx) fs σ n lk)) (by simp [Tr, Tr_slV]) rfl
 simp +contextual -implicitDefEqProofs (maxSteps := 2000000) only [↓wP, wS, seval, h, idxF_any]
def allE (o : Option (List Vc)) : Int := if (lst o).all okV then (if (lst o).any (fun v => ((lst v).length : Int) != ((dm o : Nat) : Int)) then 151 else 0) else 150
theorem r36g (c : Option (List Vc)) (hl : (lst c).length < 9223372036854775808) (hv : ∀ v ∈ lst c, Sm v) : res T 43 [slV 1 vecV c] = some (.int .i64 (allE c)) := by
 refine run_res (run_pure (fn := g43) rfl rfl (by decide) ?_)
 simp only [g43, b43, zO, zN, zM, zL, zG, zP, zQ, zI, zA, zT, zF, zB, zC, zD, zE, zH, zJ, zK]
 simp +contextual -implicitDefEqProofs (maxSteps := 2000000) only [↓wP, wS, seval]
 refine WC_for (lst c).length 0 (fun (j : Nat) env σ n => 1 ≤ n ∧ σ 0 = some (.row 1 [slV 1 vecV c]) ∧ env 1 = .ptr 0 1 0 0 ∧ env 7 = slV 1 vecV c ∧ (lst c).all okV = ((lst c).drop j).all okV) (by omega) (by decide) (by decide) (fun _ _ => rfl) (fun _ _ _ => rfl) ?_ ?_ _ _ _ rfl rfl ?_
 ·intro j env σ n hj g1 g2 ⟨g3, g4, g5, g6, g7⟩
  simp only [vl_tmp] at g2
  have hx : (lst c)[j]? = some (lst c)[j] := List.getElem?_eq_getElem hj
  have f := f36 (lst c)[j] (hv _ (List.getElem_mem hj))
  rw [List.drop_eq_getElem_cons hj, List.all_cons] at g7
  generalize (lst c)[j] = x at *
  cases ho : okV x
  ·rw [ho] at f
   rw [ho, Bool.false_and] at g7
   have e : allE c = 150 := by unfold allE; rw [g7]; rfl
   simp +contextual -implicitDefEqProofs (maxSteps := 2000000) only [↓wP, wS, seval, g1, g2, g3, g4, g5, g6, hx, vecV_eq, f, e]
  ·rw [ho] at f
   rw [ho, Bool.true_and] at g7
   simp +contextual -implicitDefEqProofs (maxSteps := 2000000) only [↓wP, wS, seval, g1, g2, g3, g4, g5, g6, hx, vecV_eq, f]
   exact g7
 ·intro env σ n ⟨g3, g4, g5, g6, g7⟩ g1 g2
  rw [List.drop_length, List.all_nil] at g7
  have hc : frz σ 12 (.fn 76 [.ptr 0 1 0 0]) = some (.fn 76 [.box [slV 1 vecV c]]) := by
   simp +contextual -implicitDefEqProofs (maxSteps := 2000000) only [↓wP, wS, seval, g4, frz_fn, frz_ptr, frz_slV, cl_slV]
  have e : [slV 1 vecV c, V.fn 76 [.ptr 0 1 0 0]].mapM (frz σ 12) = some [slV 1 vecV c, .fn 76 [.box [slV 1 vecV c]]] := by
   simp only [List.mapM_cons, List.mapM_nil, frz_slV, hc]; rfl
  have f42' := fun n lk => callE_flat (fs := true) (n := n) (lk := lk) (by decide) e (r53h c hl) rfl
  simp only [thaw] at f42'
  unfold allE
  rw [g7]
  cases ha : (lst c).any fun v => ((lst v).length : Int) != ((dm c : Nat) : Int) <;> rw [ha] at f42'
  all_goals simp +contextual -implicitDefEqProofs (maxSteps := 2000000) only [↓wP, wS, seval, g4, g5, f42']
 ·simp +contextual -implicitDefEqProofs (maxSteps := 2000000) only [↓wP, wS, seval]
def nb (v : Vc) (c : List Vc) (j : Nat) : Nat := (bst [] (dis v c) j).toNat
theorem nb_step (v : Vc) (c : List Vc) (j : Nat) : nb v c (j + 1) = if ahead ⟨j, dis v c j⟩ ⟨nb v c j, dis v c (nb v c j)⟩ then j else nb v c j := by
 unfold nb
 rw [show bst [] (dis v c) (j + 1) = if (j : Int) ∈ ([] : List Int) then bst [] (dis v c) j else if 0 ≤ bst [] (dis v c) j ∧ dis v c (bst [] (dis v c) j).toNat ≤ dis v c j then bst [] (dis v c) j else j from rfl, if_neg (by simp)]
 rcases bst_spec [] (dis v c) j with ⟨h1, h2⟩ | ⟨b, h1, h2, -, -⟩
 ·have : j = 0 := by
   rcases Nat.eq_zero_or_pos j with h | h
   ·exact h
   ·have := h2 0 h; simp at this
  subst this
  rw [h1, if_neg (by omega)]
  show (0 : Int).toNat = _
  rw [show ((-1 : Int).toNat) = 0 by rfl]
  split <;> rfl
 ·rw [h1]
  unfold ahead
  simp only [Int.toNat_natCast]
  by_cases hd : dis v c b ≤ dis v c j
  ·rw [if_pos ⟨by omega, hd⟩, if_neg (by simp; omega)]; rfl
  ·rw [if_neg (by rintro ⟨-, h⟩; exact hd h), if_pos (by simp; omega)]; rfl
theorem nb_lt (v : Vc) (c : List Vc) (j : Nat) : nb v c j ≤ j := by
 unfold nb
 rcases bst_spec [] (dis v c) j with ⟨h1, h2⟩ | ⟨b, h1, h2, -, -⟩ <;> rw [h1] <;> simp <;> omega
theorem r18 (c : Option (List Vc)) (v : Vc) (hl : (lst c).length ≤ 7) (hne : lst c ≠ []) (h2' : ∀ x ∈ lst c, Two x v) (hv : ∀ x ∈ lst c, Sm x) (hv' : Sm v) :
 res T 18 [slV 1 vecV c, slV 1 i32V v] = some (.tup [.int .i64 (nb v (lst c) (lst c).length), .int .i64 0]) := by
 refine run_res (run_pure (fn := g18) rfl rfl (by decide) ?_)
 simp only [g18, b18, zO, zN, zM, zL, zG, zP, zQ, zI, zA, zT, zF, zB, zC, zD, zE, zH, zJ, zK]
 have hp : 0 < (lst c).length := List.length_pos_iff.2 hne
 have z0 : (((lst c).length : Int) == 0) = false := by simp; exact hne
 obtain ⟨D, hD⟩ : ∃ D, D = dis v (lst c) := ⟨_, rfl⟩
 have hDx : ∀ i (h : i < (lst c).length), distI (lst c)[i] v = D i := fun i h => by rw [hD]; simp [dis, h]
 have x0 : (lst c)[0]? = some (lst c)[0] := List.getElem?_eq_getElem hp
 have d0 := f44 (lst c)[0] v (h2' _ (List.getElem_mem hp))
 rw [hDx 0 hp] at d0
 have ea : allE (some (v :: lst c)) = 0 := by
  have hok : okV v = true := (h2' _ (List.getElem_mem hp)).2
  have hd : dm (some (v :: lst c)) = (lst v).length := rfl
  unfold allE
  rw [if_pos, if_neg]
  ·rw [Bool.not_eq_true, List.any_eq_false]
   intro x hx
   rw [hd]
   rcases List.mem_cons.1 hx with rfl | hx
   ·simp
   ·have := (h2' x hx).3; simp; omega
  ·rw [List.all_eq_true]
   intro x hx
   rcases List.mem_cons.1 hx with rfl | hx
   ·exact hok
   ·exact (h2' x hx).1
 have r43 := r36g (some (v :: lst c)) (by rw [lst_some, List.length_cons]; omega) (fun x hx => by
  rcases List.mem_cons.1 hx with rfl | hx
  ·exact hv'
  ·exact hv x hx)
 rw [ea] at r43
 have hlm : ((lst c).map vecV).length = (lst c).length := List.length_map _
 have hL : (1 + (lst c).length) * 24 ≤ LIM := by unfold LIM; omega
 obtain ⟨σ1, hσ1⟩ : ∃ σ1, σ1 = upd (upd (upd Sto.empty 0 (some (Ob.row 1 [slV 1 i32V v]))) 0 none) 1 (some (Ob.row 1 (slV 1 i32V v :: (lst c).map vecV))) := ⟨_, rfl⟩
 have e : [V.ref 1 0 (1 + (lst c).length) 1].mapM (frz σ1 12) = some [slV 1 vecV (some (v :: lst c))] := by
  have hx : frz σ1 12 (.ref 1 0 (1 + (lst c).length) 1) = some (slV 1 vecV (some (v :: lst c))) := by
   have he : elems σ1 1 (.ref 1 0 (1 + (lst c).length) 1) = some ((v :: lst c).map vecV) := by
    rw [hσ1]
    simp [elems, upd]
    exact ⟨by omega, by rw [List.take_of_length_le (by rw [List.length_cons, List.length_map]; omega)]; rfl⟩
   show (elems _ _ _).bind _ = _
   rw [he, Option.bind_some, mapM_id (fun x hx => by
    obtain ⟨y, -, rfl⟩ := List.mem_map.1 hx
    exact elemM_tr (Tr_slV _ _ _ _))]
   rfl
  simp only [List.mapM_cons, List.mapM_nil, hx]; rfl
 have f43' := fun n lk => callE_flat (fs := true) (n := n) (lk := lk) (by decide) e r43 rfl
 simp only [thaw] at f43'
 simp +contextual -implicitDefEqProofs (maxSteps := 2000000) only [↓wP, wS, seval, z0, x0, vecV_eq, d0, true_or, hlm, hL, ← hσ1, f43']
 refine WC_for (lst c).length 0 (fun (j : Nat) env σ n => env 1 = slV 1 i32V v ∧ env 7 = .ptr 2 2 0 0 ∧ env 28 = slV 1 vecV c ∧ 3 ≤ n ∧ σ 2 = some (.row 2 [.agg [.int .u64 (nb v (lst c) j : Int), .int .u64 (D (nb v (lst c) j))]])) (by omega) (by decide) (by decide) (fun _ _ => rfl) (fun _ _ _ => rfl) ?_ ?_ _ _ _ rfl rfl ?_
 ·intro j env σ n hj h1 h2 ⟨g1, g2, g3, g4, g5⟩
  simp only [vl_tmp] at h2
  have hx : (lst c)[j]? = some (lst c)[j] := List.getElem?_eq_getElem hj
  have dj := f44 (lst c)[j] v (h2' _ (List.getElem_mem hj))
  rw [hDx j hj] at dj
  have hst := nb_step v (lst c) j
  rw [← hD] at hst
  generalize (lst c)[j] = x at *
  have wj : IntKind.u64.wrap ((j : Nat) : Int) = ((j : Nat) : Int) := by rw [wrap_u64] <;> omega
  have q2 : (2 = n) = False := by simp; omega
  have q3 : (n = 2) = False := by simp; omega
  obtain ⟨σ1, hσ1⟩ : ∃ σ1, σ1 = upd (upd σ n (some (.row 2 [.agg [.int .u64 0, .int .u64 0]]))) n (some (.row 2 [.agg [.int .u64 (j : Int), .int .u64 (D j)]])) := ⟨_, rfl⟩
  have s2 : σ1 2 = some (.row 2 [.agg [.int .u64 (nb v (lst c) j : Int), .int .u64 (D (nb v (lst c) j))]]) := by rw [hσ1]; simp [upd, q2, g5]
  have sn : σ1 n = some (.row 2 [.agg [.int .u64 (j : Int), .int .u64 (D j)]]) := by rw [hσ1]; simp [upd]
  by_cases ha : cmpH ⟨j, D j⟩ ⟨nb v (lst c) j, D (nb v (lst c) j)⟩ < 0
  ·have hah : ahead ⟨j, D j⟩ ⟨nb v (lst c) j, D (nb v (lst c) j)⟩ = true := by rw [← cmp_lt]; simpa using ha
   rw [if_pos hah] at hst
   simp +contextual -implicitDefEqProofs (maxSteps := 2000000) only [↓wP, wS, seval, h1, h2, g1, g2, g3, hx, vecV_eq, dj, wj, q2, q3, ← hσ1, s2, sn, f45, ha]
   exact ⟨by omega, by rw [hst]⟩
  ·have hah : ahead ⟨j, D j⟩ ⟨nb v (lst c) j, D (nb v (lst c) j)⟩ = false := by rw [← cmp_lt]; simpa using ha
   rw [if_neg (by rw [hah]; simp)] at hst
   simp +contextual -implicitDefEqProofs (maxSteps := 2000000) only [↓wP, wS, seval, h1, h2, g1, g2, g3, hx, vecV_eq, dj, wj, q2, q3, ← hσ1, s2, sn, f45, ha]
   exact ⟨by omega, by rw [hst]⟩
 ·intro env σ n ⟨g1, g2, g3, g4, g5⟩ h1 h2
  have wb : IntKind.i64.wrap ((nb v (lst c) (lst c).length : Nat) : Int) = ((nb v (lst c) (lst c).length : Nat) : Int) := by have := nb_lt v (lst c) (lst c).length; rw [wrap_i64] <;> omega
  simp +contextual -implicitDefEqProofs (maxSteps := 2000000) only [↓wP, wS, seval, g2, g5, wb]
 ·simp +contextual -implicitDefEqProofs (maxSteps := 2000000) only [↓wP, wS, seval]
  rfl
theorem f18 (c : Option (List Vc)) (v : Vc) (hl : (lst c).length ≤ 7) (hne : lst c ≠ []) (h2 : ∀ x ∈ lst c, Two x v) (hv : ∀ x ∈ lst c, Sm x) (hv' : Sm v) (fs : Bool) (σ : Sto) (n lk : Nat) :
 callE T fs 18 [slV 1 vecV c, slV 1 i32V v] σ n lk = some (.tup [.int .i64 (nb v (lst c) (lst c).length), .int .i64 0], σ, n) :=
 callE_tr (by decide) (r18 c v hl hne h2 hv hv') (by simp [Tr, Tr_slV]) rfl fs σ n lk
end Go.Q.SD
end

section
/- What is found among what is gone over. -/
namespace Go.Q.SD
open Go.Q Go.Sort
theorem hVal_frz {σ : Sto} {n : Nat} {l : List Hit} (h : l ≠ [] → σ n = some (.row 2 (hs l))) (k : Nat) : frz σ (k + 3) (hVal n l) = some (slV 2 hitV (optH l)) := by
 unfold hVal
 split
 ·rename_i e; subst e; rfl
 ·rename_i e
  have e1 : (rw' l.toArray).take l.length = hs l := by rw [rw_hs, hs_take, List.take_length]
  rw [frz_pre (d := l.toArray) (by simp) (by rw [rw_hs]; exact h e) k, e1]
  simp [optH, e, slV, hs]
def Iter (F : Nat) (caps : List V) (items : List Rw) (w : Nat) : Prop :=
 ∀ (J : List Rw → Sto → Nat → Prop) (D : Sto → Nat → Prop) (ok : Rw → Bool) (σ : Sto),
  (∀ pre σ n σ' n', J pre σ n → n ≤ n' → (∀ i, i < n → (i < 6 ∨ 6 + w ≤ i) → σ' i = σ i) → J pre σ' n') →
  (∀ σ n σ' n', D σ n → (∀ i, i < 6 → σ' i = σ i) → D σ' n') →
  (∀ pre x σ n, J pre σ n → 6 + w ≤ n → x ∈ items → pre.length < items.length → yieldW (run T) 5 [.int .u64 x.id, slV 1 i32V x.v] σ n 0 (fun y σ' n' => (∀ i, 6 ≤ i → i < 6 + w → σ' i = σ i) ∧ n ≤ n' ∧
   ((ok x = true ∧ y = .bool true ∧ J (pre ++ [x]) σ' n') ∨ (ok x = false ∧ y = .bool false ∧ D σ' n')))) →
  (∀ σ' n', 6 + w ≤ n' → (∀ i, i < 6 → σ' i = σ i) → J [] σ' n') →
  run T (.raw F (.yld 5 :: caps) σ 6 0) (memQ fun _ σ' n' => (items.all ok = true ∧ J items σ' n') ∨ (items.all ok = false ∧ D σ' n'))
def asg53 : AC := (.seq (.reg [⟨(some 9), none, .mov (.tmp 14)⟩]) (.reg [⟨(some 10), none, .mov (.tmp 15)⟩]))
def bd53 : AC := (.block 1 (.seq (.reg [⟨(some 17), none, .load false 1 (.tmp 5)⟩,
 ⟨(some 18), none, .mov (.tmp 9)⟩,
 ⟨(some 19), none, .mov (.tmp 10)⟩,
 ⟨(some 20), none, .callv (.tmp 17) [(.tmp 18), (.tmp 19)]⟩,
 ⟨(some 16), none, .mov (.tmp 20)⟩,
 ⟨(some 21), none, .ext (.tmp 16) 0⟩,
 ⟨(some 22), none, .ext (.tmp 16) 1⟩,
 ⟨(some 11), none, .alloc (.agg [(.int .u64 0), (.int .u64 0)])⟩,
 ⟨none, none, .store 2 (.tmp 11) (.tmp 21)⟩,
 ⟨(some 12), none, .mov (.tmp 22)⟩])
 (.seq (.seq (.reg [⟨(some 23), none, .mov (.tmp 12)⟩,
  ⟨(some 24), none, .bin .neq (.tmp 23) (.con (.int .i64 0))⟩])
 (.cond (.tmp 24)
  (.seq (.reg [⟨(some 25), none, .mov (.tmp 12)⟩,
   ⟨none, none, .store 1 (.tmp 6) (.con .nilS)⟩,
   ⟨none, none, .store 1 (.tmp 7) (.tmp 25)⟩])
  .ret)
  .skip))
 (.reg [⟨(some 26), none, .load false 1 (.tmp 8)⟩,
  ⟨(some 27), none, .load true 2 (.tmp 11)⟩,
  ⟨(some 28), none, .lit 2 [(.tmp 27)]⟩,
  ⟨(some 29), none, .append 2 16 (.tmp 26) (.tmp 28)⟩,
  ⟨none, none, .store 1 (.tmp 8) (.tmp 29)⟩]))))
theorem w_asg53 (env : Nat → V) (σ : Sto) (n lk : Nat) (Q : Ex → St → Prop) : WC T asg53 env σ n lk Q = WC T (.seq (.reg [⟨(some 9), none, .mov (.tmp 14)⟩]) (.reg [⟨(some 10), none, .mov (.tmp 15)⟩])) env σ n lk Q := rfl
theorem w_bd53 (env : Nat → V) (σ : Sto) (n lk : Nat) (Q : Ex → St → Prop) : WC T bd53 env σ n lk Q = WC T (.block 1 (.seq (.reg [⟨(some 17), none, .load false 1 (.tmp 5)⟩,
 ⟨(some 18), none, .mov (.tmp 9)⟩,
 ⟨(some 19), none, .mov (.tmp 10)⟩,
 ⟨(some 20), none, .callv (.tmp 17) [(.tmp 18), (.tmp 19)]⟩,
 ⟨(some 16), none, .mov (.tmp 20)⟩,
 ⟨(some 21), none, .ext (.tmp 16) 0⟩,
 ⟨(some 22), none, .ext (.tmp 16) 1⟩,
 ⟨(some 11), none, .alloc (.agg [(.int .u64 0), (.int .u64 0)])⟩,
 ⟨none, none, .store 2 (.tmp 11) (.tmp 21)⟩,
 ⟨(some 12), none, .mov (.tmp 22)⟩])
 (.seq (.seq (.reg [⟨(some 23), none, .mov (.tmp 12)⟩,
  ⟨(some 24), none, .bin .neq (.tmp 23) (.con (.int .i64 0))⟩])
 (.cond (.tmp 24)
  (.seq (.reg [⟨(some 25), none, .mov (.tmp 12)⟩,
   ⟨none, none, .store 1 (.tmp 6) (.con .nilS)⟩,
   ⟨none, none, .store 1 (.tmp 7) (.tmp 25)⟩])
  .ret)
  .skip))
 (.reg [⟨(some 26), none, .load false 1 (.tmp 8)⟩,
  ⟨(some 27), none, .load true 2 (.tmp 11)⟩,
  ⟨(some 28), none, .lit 2 [(.tmp 27)]⟩,
  ⟨(some 29), none, .append 2 16 (.tmp 26) (.tmp 28)⟩,
  ⟨none, none, .store 1 (.tmp 8) (.tmp 29)⟩])))) env σ n lk Q := rfl
def hitQ (q : Option (List Int)) (r : Rw) : Hit := ⟨r.id, distI q r.v⟩
structure Jq (q : Option (List Int)) (k : Int) (env : Nat → V) (w : Nat) (pre : List Rw) (σ : Sto) (n : Nat) : Prop where
 hn : 6 + w ≤ n
 s0 : σ 0 = some (.row 2 [.agg [slV 1 i32V q, .int .i64 k]])
 s1 : σ 1 = some (.row 1 [.bnd 58 [.agg [slV 1 i32V q, .int .i64 k]]])
 s2 : σ 2 = some (.row 1 [.nilS])
 s3 : σ 3 = some (.row 1 [.int .i64 0])
 s5 : σ 5 = some (.loop env [14, 15] asg53 bd53 .ready none)
 s4 : ∃ v, σ 4 = some (.row 1 [v]) ∧ Pl σ (6 + w) n 2 v (oH (pre.map (hitQ q)))
structure Dq (env : Nat → V) (σ : Sto) (n : Nat) : Prop where
 s2 : σ 2 = some (.row 1 [.nilS])
 s3 : σ 3 = some (.row 1 [.int .i64 151])
 s5 : σ 5 = some (.loop env [14, 15] asg53 bd53 .done (some .ret))
theorem Jq.frame {q : Option (List Int)} {k : Int} {env : Nat → V} {w : Nat} {pre : List Rw} {σ σ' : Sto} {n n' : Nat} (h : Jq q k env w pre σ n) (hn : n ≤ n') (hs : ∀ i, i < n → (i < 6 ∨ 6 + w ≤ i) → σ' i = σ i) : Jq q k env w pre σ' n' := by
 obtain ⟨h1, h2, h3, h4, h5, h6, v, h7, h8⟩ := h
 exact ⟨by omega, by rw [hs 0 (by omega) (by omega), h2], by rw [hs 1 (by omega) (by omega), h3], by rw [hs 2 (by omega) (by omega), h4], by rw [hs 3 (by omega) (by omega), h5], by rw [hs 5 (by omega) (by omega), h6],
  v, by rw [hs 4 (by omega) (by omega), h7], h8.loc (fun i h1 h2 => hs i h2 (by omega)) hn⟩
theorem hy53 (q : Option (List Int)) (k : Int) (hq : okV q = true) (env : Nat → V) (w : Nat) (he5 : env 5 = .ptr 1 1 0 0) (he6 : env 6 = .ptr 2 1 0 0) (he7 : env 7 = .ptr 3 1 0 0) (he8 : env 8 = .ptr 4 1 0 0) (pre : List Rw) (x : Rw) (hx : okV x.v = true) (hpre : pre.length < 1000000)
 (σ : Sto) (n : Nat) (hJ : Jq q k env w pre σ n) (MP : V → Sto → Nat → Prop)
 (hT : decide ((lst q).length = (lst x.v).length) = true → ∀ σ' n', (∀ i, 6 ≤ i → i < 6 + w → σ' i = σ i) → n ≤ n' → Jq q k env w (pre ++ [x]) σ' n' → MP (.bool true) σ' n')
 (hF : decide ((lst q).length = (lst x.v).length) = false → ∀ σ' n', (∀ i, 6 ≤ i → i < 6 + w → σ' i = σ i) → n ≤ n' → Dq env σ' n' → MP (.bool false) σ' n') :
 yieldW (run T) 5 [.int .u64 x.id, slV 1 i32V x.v] σ n 0 MP := by
 obtain ⟨h1, h2, h3, h4, h5, h6, v, h7, h8⟩ := hJ
 refine yieldW_gs h6 rfl (Nat.zero_le _) ?_
 have f := f58 q x.v k x.id (by have := (okV_len hq).1; omega) (by have := (okV_len hx).1; omega)
 have q0 : (5 = n) = False := by simp; omega
 have q1 : (n = 5) = False := by simp; omega
 have p2 : (2 = n) = False := by simp; omega
 have p3 : (3 = n) = False := by simp; omega
 have p4 : (4 = n) = False := by simp; omega
 have p5 : (1 = n) = False := by simp; omega
 by_cases hl : (lst q).length = (lst x.v).length
 ·have hd : decide ((lst q).length = (lst x.v).length) = true := by simp [hl]
  have e1 : disE q x.v = 0 := by simp [disE, vAll, hq, hx, hl]
  have e2 : disV q x.v = distI q x.v := by unfold disE at e1; simp [disV, e1]
  rw [e1, e2] at f
  have hT := hT hd
  obtain ⟨σ1, hσ1⟩ : ∃ σ1, σ1 = upd (upd (upd σ 5 (some (.loop env [14, 15] asg53 bd53 .busy none))) n (some (.row 2 [.agg [.int .u64 0, .int .u64 0]]))) n (some (.row 2 [.agg [.int .u64 x.id, .int .u64 (distI q x.v)]])) := ⟨_, rfl⟩
  have so : ∀ i, i ≠ 5 → i < n → σ1 i = σ i := fun i g1 g2 => by
   have : i ≠ n := by omega
   rw [hσ1]; simp [upd, this, g1]
  have sn : σ1 n = some (.row 2 [.agg [.int .u64 x.id, .int .u64 (distI q x.v)]]) := by rw [hσ1]; simp [upd]
  have s5 : σ1 5 = some (.loop env [14, 15] asg53 bd53 .busy none) := by rw [hσ1]; simp [upd, q0]
  have s4 : σ1 4 = some (.row 1 [v]) := by rw [so 4 (by decide) (by omega), h7]
  have hc := h8.cells
  have ho := h8.one
  simp +contextual -implicitDefEqProofs (maxSteps := 2000000) only [↓wP, wS, seval, bind_cons, bind_nil, w_asg53, w_bd53, he5, he6, he7, he8, h3, h6, h7, f, q0, q1, p2, p3, p4, p5, ← hσ1, s4, sn, s5, hc]
  refine stepW_app1 (m := 6 + w) (n0 := n) (σ0 := σ) (o := oH (pre.map (hitQ q))) h8 (fun i g1 g2 => ?_) (by omega) (by omega) (Nat.zero_le _) ?_ (fun _ σ2 g1 g2 => ?_)
  ·have : i ≠ n + 1 := by omega
   simp [upd, this, so i (by omega) g2]
  ·rw [lst_oH, hs_len, List.length_map]; unfold LIM; omega
  ·rw [lst_oH, hs_len, List.length_map] at g1 ⊢
   have hv : ∀ i, i < 6 + w → ∀ off len s, v ≠ .ref i off len s := by
    intro i hi off len s e
    subst e
    cases ho' : oH (pre.map (hitQ q)) with
    | none => rw [ho'] at h8; simp only [Pl] at h8; cases h8
    | some xs => rw [ho'] at h8; obtain ⟨j, e, -, e2, -⟩ := h8; simp only [V.ref.injEq] at e; omega
   have t : ∀ i, i < n → (∀ off len s, v ≠ .ref i off len s) → σ2 i = σ1 i := fun i hi hne => by
    rw [g2 i (by omega) hne]
    have : i ≠ n + 1 := by omega
    simp [upd, this]
   have t4 := (t 4 (by omega) (hv 4 (by omega))).trans s4
   have t5 := (t 5 (by omega) (hv 5 (by omega))).trans s5
   have z4 : (4 = 5) = False := by simp
   have hsp : ∀ c, spliceC v 0 [c] = c := fun c => by
    cases ho' : oH (pre.map (hitQ q)) with
    | none => rw [ho'] at h8; simp only [Pl] at h8; subst h8; rfl
    | some xs => rw [ho'] at h8; obtain ⟨j, rfl, -⟩ := h8; rfl
   simp +contextual -implicitDefEqProofs (maxSteps := 2000000) only [↓wP, wS, seval, he8, t4, t5, hsp]
   have tt : ∀ i, i < 6 + w → i ≠ 5 → σ2 i = σ i := fun i hi h5 => (t i (by omega) (hv i hi)).trans (so i h5 (by omega))
   have eo : oH ((pre ++ [x]).map (hitQ q)) = some (hs (pre.map (hitQ q)) ++ [.agg [.int .u64 x.id, .int .u64 (distI q x.v)]]) := by
    simp [oH, hs, hitV, hitQ]
   refine .inl (hT _ _ (fun i a1 a2 => ?_) (by omega) ⟨by omega, ?_, ?_, ?_, ?_, ?_, .ref (n + 2) 0 (pre.length + 1) 2, ?_, ?_⟩)
   ·have b1 : i ≠ 4 := by omega
    have b2 : i ≠ 5 := by omega
    simp [upd, b1, b2, tt i a2 b2]
   ·simp [upd, tt 0 (by omega) (by decide), h2]
   ·simp [upd, tt 1 (by omega) (by decide), h3]
   ·simp [upd, tt 2 (by omega) (by decide), h4]
   ·simp [upd, tt 3 (by omega) (by decide), h5]
   ·simp [upd]
   ·simp [upd]
   ·rw [eo]
    exact g1.loc (fun i a1 a2 => by
     have b1 : i ≠ 4 := by omega
     have b2 : i ≠ 5 := by omega
     simp [upd, b1, b2]) (Nat.le_refl _)
 ·have hd : decide ((lst q).length = (lst x.v).length) = false := by simp [hl]
  have e1 : disE q x.v = 151 := by simp [disE, vAll, hq, hx, hl]
  have e2 : disV q x.v = 0 := by unfold disE at e1; simp [disV, e1]
  rw [e1, e2] at f
  have hF := hF hd
  simp +contextual -implicitDefEqProofs (maxSteps := 2000000) only [↓wP, wS, seval, bind_cons, bind_nil, w_asg53, w_bd53, he5, he6, he7, he8, h3, h4, h5, h6, h7, f, q0, q1, p2, p3, p4, p5]
  refine .inr (hF _ _ (fun i a1 a2 => ?_) (by omega) ⟨?_, ?_, ?_⟩)
  ·have b1 : i ≠ 5 := by omega
   have b2 : i ≠ 3 := by omega
   have b3 : i ≠ 2 := by omega
   have b4 : i ≠ n := by omega
   simp [upd, b1, b2, b3, b4]
  ·simp [upd]
  ·simp [upd]
  ·simp [upd]
def sameD (q : Option (List Int)) (x : Rw) : Bool := decide ((lst q).length = (lst x.v).length)
def itL (q : Option (List Int)) (k : Nat) (l : List Rw) : List Hit := if l.all (sameD q) then fst' k (l.map (hitQ q)) else []
def itE (q : Option (List Int)) (l : List Rw) : Int := if l.all (sameD q) then 0 else 151
theorem hVal_giv' {σ : Sto} {n : Nat} {l : List Hit} (h : l ≠ [] → σ n = some (.row 2 (hs l))) : giv σ 11 (hVal n l) = some (ownH l) ∧ (gids σ 11 (hVal n l)).Nodup := by
 unfold hVal
 by_cases h0 : l = []
 ·rw [if_pos h0, h0]; exact ⟨rfl, by simp [gids]⟩
 ·have hat := h h0
  rw [if_neg h0, ownH_eq h0]
  have hg : ∀ x ∈ hs l, elemM (giv σ 10) x = some x := by
   intro x hx
   obtain ⟨y, -, rfl⟩ := List.mem_map.1 hx
   rfl
  have hg' : ∀ x ∈ hs l, ∀ c ∈ x.cells, gids σ 10 c = [] := by
   intro x hx c hc
   obtain ⟨y, -, rfl⟩ := List.mem_map.1 hx
   simp only [hitV, V.cells, List.mem_cons, List.not_mem_nil, or_false] at hc
   rcases hc with rfl | rfl <;> rfl
  constructor
  ·simp only [giv, hat, hs_len, and_self, if_true]
   rw [mapM_id hg]; rfl
  ·simp only [gids, hat]
   rw [List.flatMap_eq_nil_iff.2 fun x hx => List.flatMap_eq_nil_iff.2 fun c hc => hg' x hx c hc]
   simp
theorem r53 (q : Option (List Int)) (k : Nat) (F : Nat) (caps : List V) (items : List Rw) (w : Nat) (hq : okV q = true) (hk1 : 1 ≤ k) (hk2 : k ≤ 16) (hit : ∀ x ∈ items, okV x.v = true) (hlen : items.length ≤ 2000) (hI : Iter F caps items w) :
 res T 53 [.agg [slV 1 i32V q, .int .i64 (k : Int)], .fn F caps, .bnd 58 [.agg [slV 1 i32V q, .int .i64 (k : Int)]]] = some (.tup [ownH (itL q k items), .int .i64 (itE q items)]) := by
 refine run_res (run_own (fn := g53) rfl rfl (by decide) ?_)
 simp only [g53, b53, zO, zN, zM, zL, zG, zP, zQ, zI, zA, zT, zF, zB, zC, zD, zE, zH, zJ, zK]
 simp +contextual -implicitDefEqProofs (maxSteps := 2000000) only [↓wP, wS, seval]
 generalize hE : pt (pt (pt (pt (pt (pt (envOf [V.agg [slV 1 i32V q, V.int IntKind.i64 (k : Int)], V.fn F caps, V.bnd 58 [V.agg [slV 1 i32V q, V.int IntKind.i64 (k : Int)]]]) 3 (V.ptr 0 2 0 0)) 5 (V.ptr 1 1 0 0)) 6 (V.ptr 2 1 0 0)) 7 (V.ptr 3 1 0 0)) 8 (V.ptr 4 1 0 0)) 13 (V.fn F caps) = env
 have e3 : env 3 = .ptr 0 2 0 0 := by rw [← hE]; rfl
 have e5 : env 5 = .ptr 1 1 0 0 := by rw [← hE]; rfl
 have e6 : env 6 = .ptr 2 1 0 0 := by rw [← hE]; rfl
 have e7 : env 7 = .ptr 3 1 0 0 := by rw [← hE]; rfl
 have e8 : env 8 = .ptr 4 1 0 0 := by rw [← hE]; rfl
 have e13 : env 13 = V.fn F caps := by rw [← hE]; rfl
 clear hE
 refine WC_rangeF (f := F) (caps := caps) e13 (Nat.zero_le _) ?_
 refine run_mono _ _ _ (fun o ho => ?_) (hI (fun pre σ n => Jq q (k : Int) env w pre σ n) (Dq env) (sameD q) _ ?_ ?_ ?_ ?_)
 ·cases o <;> try exact ho.elim
  rename_i v σ' n'
  rcases ho with ⟨hB, hJ⟩ | ⟨hB, hD⟩
  ·obtain ⟨h1, h2, h3, h4, h5, h6, v, h7, h8⟩ := hJ
   refine ⟨_, _, _, _, _, _, h6, by decide, ?_⟩
   have hL : itL q k items = fst' k (items.map (hitQ q)) := by unfold itL; rw [hB]; rfl
   have hE : itE q items = 0 := by unfold itE; rw [hB]; rfl
   rw [hL, hE]
   have hf : Hf (upd σ' 5 none) v (items.map (hitQ q)) := ⟨_, lst_optH _, by
    refine plHf (m := 6 + w) (n := n') (h8.loc (fun i a1 a2 => ?_) (Nat.le_refl _))
    have : i ≠ 5 := by omega
    simp [upd, this]⟩
   have mE : merE (k : Int) (items.map (hitQ q)) = 0 := by
    unfold merE; rw [if_neg (by omega), if_neg (by rw [List.length_map]; omega)]
   have mV : merV (k : Int) (items.map (hitQ q)) = fst' k (items.map (hitQ q)) := by unfold merV; rw [if_pos mE]; rfl
   have f := fun fs => f82 (k : Int) hf (by rw [List.length_map]; omega) fs n' 0
   rw [mE, mV] at f
   generalize fst' k (items.map (hitQ q)) = l at *
   have hcl : (hVal n' l).cells = [hVal n' l] := by unfold hVal; split <;> rfl
   have hon : (hVal n' l).one = true := by unfold hVal; split <;> rfl
   have hat : ∀ i, i < n' → hSto (upd σ' 5 none) n' l i = upd σ' 5 none i := fun i hi => hSto_at _ n' l hi
   have t2 : hSto (upd σ' 5 none) n' l 2 = some (.row 1 [.nilS]) := by rw [hat 2 (by omega)]; simp [upd, h4]
   have t3 : hSto (upd σ' 5 none) n' l 3 = some (.row 1 [.int .i64 0]) := by rw [hat 3 (by omega)]; simp [upd, h5]
   have tn : l ≠ [] → hSto (upd σ' 5 none) n' l n' = some (.row 2 (hs l)) := fun hne => by unfold hSto; rw [if_neg hne]; simp [upd]
   have z2 : (2 = n') = False := by simp; omega
   have z3 : (3 = n') = False := by simp; omega
   have hfz : ∀ (σ3 : Sto), (∀ i, i ≠ 2 → i ≠ 3 → σ3 i = hSto (upd σ' 5 none) n' l i) → giv σ3 11 (hVal n' l) = some (ownH l) ∧ (gids σ3 11 (hVal n' l)).Nodup := fun σ3 h9 => hVal_giv' (fun hne => by rw [h9 n' (by omega) (by omega)]; exact tn hne)
   have c4 : upd σ' 5 none 4 = some (.row 1 [v]) := by simp [upd, h7]
   have hc := h8.cells
   generalize hSto (upd σ' 5 none) n' l = σ2 at *
   generalize hVal n' l = hv at *
   generalize hN n' l = nn at *
   simp +contextual -implicitDefEqProofs (maxSteps := 2000000) only [↓wP, wS, seval, Option.getD_none, e3, e6, e7, e8, h2, h7, hc, f, hcl, hon, t2, t3, z2, z3]
   exact giv_tup2 (hfz _ (fun i a b => by simp [upd, a, b])) rfl rfl
  ·obtain ⟨h2, h3, h5⟩ := hD
   refine ⟨_, _, _, _, _, _, h5, by decide, ?_⟩
   have hL : itL q k items = [] := by unfold itL; rw [hB]; rfl
   have hE : itE q items = 151 := by unfold itE; rw [hB]; rfl
   rw [hL, hE]
   simp +contextual -implicitDefEqProofs (maxSteps := 2000000) only [↓wP, wS, seval, Option.getD_some, e6, e7, h2, h3]
   exact giv_tup2 (r := .nilS) ⟨rfl, by simp [gids]⟩ rfl rfl
 ·exact fun pre σ n σ' n' h h1 h2 => h.frame h1 h2
 ·exact fun σ n σ' n' h h2 => ⟨by rw [h2 2 (by decide), h.s2], by rw [h2 3 (by decide), h.s3], by rw [h2 5 (by decide), h.s5]⟩
 ·intro pre x σ n hJ hn hx hp
  exact hy53 q (k : Int) hq env w e5 e6 e7 e8 pre x (hit x hx) (by omega) σ n hJ _ (fun hd σ' n' a1 a2 a3 => ⟨a1, a2, .inl ⟨hd, rfl, a3⟩⟩) (fun hd σ' n' a1 a2 a3 => ⟨a1, a2, .inr ⟨hd, rfl, a3⟩⟩)
 ·intro σ' n' hn hs
  exact ⟨hn, by rw [hs 0 (by decide)]; simp [upd], by rw [hs 1 (by decide)]; simp [upd], by rw [hs 2 (by decide)]; simp [upd], by rw [hs 3 (by decide)]; simp [upd], by rw [hs 5 (by decide)]; rfl, .nilS, by rw [hs 4 (by decide)]; simp [upd], rfl⟩
end Go.Q.SD
end

section
/- Queries; rows. -/
namespace Go.Q.SD
open Go.Q
def sel (m0 m1 : Nat) (l : List Cel) : List Rw := (l.zipIdx.filter fun p => p.1.u && tb m0 m1 p.2).map fun p => ⟨p.1.id, p.1.v⟩
theorem sel_snoc (m0 m1 : Nat) (l : List Cel) (c : Cel) : sel m0 m1 (l ++ [c]) = sel m0 m1 l ++ if (c.u && tb m0 m1 l.length) = true then [⟨c.id, c.v⟩] else [] := by
 unfold sel
 rw [List.zipIdx_append, List.filter_append, List.map_append]
 congr 1
 simp only [List.zipIdx_cons, List.zipIdx_nil, List.filter_cons, List.filter_nil, Nat.zero_add]
 split <;> rfl
theorem sel_len (m0 m1 : Nat) (l : List Cel) : (sel m0 m1 l).length ≤ l.length := by
 unfold sel
 rw [List.length_map]
 exact Nat.le_trans (List.length_filter_le _ _) (by simp)
end Go.Q.SD
end

section
/- Cells, gone over. -/
namespace Go.Q.SD
open Go.Q Go.Sort
def selC (m0 m1 : Nat) (l : List Cel) : List Cel := (l.zipIdx.filter fun p => p.1.u && tb m0 m1 p.2).map (·.1)
def rowC (c : Cel) : Rw := ⟨c.id, c.v⟩
theorem sel_selC (m0 m1 : Nat) (l : List Cel) : sel m0 m1 l = (selC m0 m1 l).map rowC := by
 unfold sel selC rowC
 rw [List.map_map]; rfl
theorem selC_snoc (m0 m1 : Nat) (l : List Cel) (c : Cel) : selC m0 m1 (l ++ [c]) = selC m0 m1 l ++ if (c.u && tb m0 m1 l.length) = true then [c] else [] := by
 unfold selC
 rw [List.zipIdx_append, List.filter_append, List.map_append]
 congr 1
 simp only [List.zipIdx_cons, List.zipIdx_nil, List.filter_cons, List.filter_nil, Nat.zero_add]
 split <;> rfl
theorem selC_pre (m0 m1 : Nat) (l : List Cel) (k : Nat) : ∃ r, selC m0 m1 l = selC m0 m1 (l.take k) ++ r := by
 refine ⟨(((l.drop k).zipIdx (l.take k).length).filter fun p => p.1.u && tb m0 m1 p.2).map (·.1), ?_⟩
 unfold selC
 conv => lhs; rw [← List.take_append_drop k l]
 rw [List.zipIdx_append, List.filter_append, List.map_append]
 simp
theorem raw83 (a : Option (List Cel)) (m0 m1 : Nat) (h0 : W64 m0) (h1 : W64 m1) (hl : (lst a).length ≤ 96) (l : Nat) (J' : List Cel → Sto → Nat → Prop) (D' : Sto → Nat → Prop) (ok : Cel → Bool)
 (hfr : ∀ pre σ n σ' n', J' pre σ n → n ≤ n' → (∀ i, i < n → σ' i = σ i) → J' pre σ' n')
 (hy : ∀ pre c σ n, J' pre σ n → c ∈ selC m0 m1 (lst a) → pre.length < (selC m0 m1 (lst a)).length → yieldW (run T) l [celV c] σ n 0 (fun y σ' n' => (ok c = true ∧ y = .bool true ∧ J' (pre ++ [c]) σ' n') ∨ (ok c = false ∧ y = .bool false ∧ D' σ' n')))
 (σ : Sto) (n : Nat) (hJ : J' [] σ n) :
 run T (.raw 83 [.yld l, .box [slV 5 celV a], .box [.fn 56 [.box [.int .u64 (m0 : Int), .int .u64 (m1 : Int)]]]] σ n 0) (memQ fun _ σ' n' => ((selC m0 m1 (lst a)).all ok = true ∧ J' (selC m0 m1 (lst a)) σ' n') ∨ ((selC m0 m1 (lst a)).all ok = false ∧ D' σ' n')) := by
 refine run_rawE (fn := g83) rfl rfl ?_
 simp only [g83, b83, zO, zN, zM, zL, zG, zP, zQ, zI, zA, zT, zF, zB, zC, zD, zE, zH, zJ, zK]
 obtain ⟨MP, hMP⟩ : ∃ MP : Sto → Nat → Prop, MP = fun σ' n' => ((selC m0 m1 (lst a)).all ok = true ∧ J' (selC m0 m1 (lst a)) σ' n') ∨ ((selC m0 m1 (lst a)).all ok = false ∧ D' σ' n') := ⟨_, rfl⟩
 simp only [← congrFun (congrFun hMP _) _]
 simp +contextual -implicitDefEqProofs (maxSteps := 2000000) only [↓wP, wS, seval]
 refine WC_for (lst a).length 0 (fun (j : Nat) env σ n => env 0 = .yld l ∧ env 2 = .box [.fn 56 [.box [.int .u64 (m0 : Int), .int .u64 (m1 : Int)]]] ∧ env 7 = slV 5 celV a ∧ (selC m0 m1 ((lst a).take j)).all ok = true ∧ J' (selC m0 m1 ((lst a).take j)) σ n) (by omega) (by decide) (by decide) (fun _ _ => rfl) (fun _ _ _ => rfl) ?_ ?_ _ _ _ rfl rfl ?_
 ·intro j env σ n hj g1 g2 ⟨g3, g4, g5, g6, g7⟩
  simp only [vl_tmp] at g2
  have hx : (lst a)[j]? = some (lst a)[j] := List.getElem?_eq_getElem hj
  have ht : selC m0 m1 ((lst a).take (j + 1)) = selC m0 m1 ((lst a).take j) ++ if ((lst a)[j].u && tb m0 m1 j) = true then [(lst a)[j]] else [] := by
   rw [← List.take_append_getElem hj, selC_snoc, List.length_take, Nat.min_eq_left (by omega)]
  obtain ⟨r, hr⟩ := selC_pre m0 m1 (lst a) (j + 1)
  generalize (lst a)[j] = c at *
  have f := f56 m0 m1 j h0 h1 (by omega)
  have hd : decide (j < 96) = true := by simp; omega
  rw [hd, Bool.true_and] at f
  have hJ1 := hfr _ _ _ (upd (upd σ n (some (.row 5 [.agg [.bool false, .int .u64 0, .int .u64 0, .int .u64 0, .nilS]]))) n (some (.row 5 [celV c]))) (n + 1) g7 (by omega) (fun i hi => by
   have : i ≠ n := by omega
   simp [upd, this])
  rw [celV_eq] at hJ1
  cases hu : c.u
  ·rw [hu] at hJ1
   simp only [hu, Bool.false_and, Bool.false_eq_true, if_false, List.append_nil] at ht
   rw [ht]
   simp +contextual -implicitDefEqProofs (maxSteps := 2000000) only [↓wP, wS, seval, g1, g2, g3, g4, g5, hx, celV_eq, hu]
   exact ⟨g6, hJ1⟩
  ·cases hb : tb m0 m1 j
   ·rw [hu] at hJ1
    simp only [hb, Bool.and_false, Bool.false_eq_true, if_false, List.append_nil] at ht
    rw [hb] at f
    rw [ht]
    simp +contextual -implicitDefEqProofs (maxSteps := 2000000) only [↓wP, wS, seval, g1, g2, g3, g4, g5, hx, celV_eq, hu, f]
    exact ⟨g6, hJ1⟩
   ·rw [hb] at f
    simp only [hu, hb, Bool.and_self, if_true] at ht
    have hm : c ∈ selC m0 m1 (lst a) := by rw [hr, ht]; simp
    have hln : (selC m0 m1 ((lst a).take j)).length < (selC m0 m1 (lst a)).length := by rw [hr, ht]; simp
    have hy1 := hy _ c _ _ hJ1 hm hln
    rw [celV_eq, hu] at hy1
    simp +contextual -implicitDefEqProofs (maxSteps := 2000000) only [↓wP, wS, seval, g1, g2, g3, g4, g5, hx, celV_eq, hu, f]
    refine stepW_yld (yieldW_mono (fun _ _ x => x) run_mono (fun y σ' n' a3 => ?_) hy1)
    rcases a3 with ⟨b1, rfl, b3⟩ | ⟨b1, rfl, b3⟩
    ·have hall : (selC m0 m1 ((lst a).take (j + 1))).all ok = true := by rw [ht, List.all_append, g6]; simp [b1]
     rw [← ht] at b3
     simp +contextual -implicitDefEqProofs (maxSteps := 2000000) only [↓wP, wS, seval, g1, g2, g3, g4, g5]
     exact ⟨hall, b3⟩
    ·have hall : (selC m0 m1 (lst a)).all ok = false := by
      rw [List.all_eq_false]
      exact ⟨c, hm, by simp [b1]⟩
     have hmp : MP σ' n' := by rw [hMP]; exact .inr ⟨hall, b3⟩
     simp +contextual -implicitDefEqProofs (maxSteps := 2000000) only [↓wP, wS, seval, g1, g2, g3, g4, g5]
     exact hmp
 ·intro env σ n ⟨g3, g4, g5, g6, g7⟩ g1 g2
  rw [List.take_length] at g6 g7
  have hmp : MP σ n := by rw [hMP]; exact .inl ⟨g6, g7⟩
  simp +contextual -implicitDefEqProofs (maxSteps := 2000000) only [↓wP, wS, seval]
  exact hmp
 ·simp +contextual -implicitDefEqProofs (maxSteps := 2000000) only [↓wP, wS, seval]
  exact ⟨by simp [selC], by simpa [selC] using hJ⟩
def asg54 : AC := (.reg [⟨(some 4), none, .alloc (.agg [(.bool false), (.int .u64 0), (.int .u64 0), (.int .u64 0), .nilS])⟩,
 ⟨none, none, .store 5 (.tmp 4) (.tmp 8)⟩])
def bd54 : AC := (.block 1 (.seq (.reg [⟨(some 9), none, .load false 1 (.tmp 3)⟩,
 ⟨(some 10), none, .faddr (.tmp 4) 1⟩,
 ⟨(some 11), none, .load false 1 (.tmp 10)⟩,
 ⟨(some 12), none, .faddr (.tmp 4) 2⟩,
 ⟨(some 13), none, .faddr (.tmp 12) 2⟩,
 ⟨(some 14), none, .load false 1 (.tmp 13)⟩,
 ⟨(some 15), none, .callv (.tmp 9) [(.tmp 11), (.tmp 14)]⟩,
 ⟨(some 16), none, .un .not (.tmp 15)⟩])
 (.cond (.tmp 16)
  .ret
  .skip)))
theorem w_asg54 (env : Nat → V) (σ : Sto) (n lk : Nat) (Q : Ex → St → Prop) : WC T asg54 env σ n lk Q = WC T (.reg [⟨(some 4), none, .alloc (.agg [(.bool false), (.int .u64 0), (.int .u64 0), (.int .u64 0), .nilS])⟩,
 ⟨none, none, .store 5 (.tmp 4) (.tmp 8)⟩]) env σ n lk Q := rfl
theorem w_bd54 (env : Nat → V) (σ : Sto) (n lk : Nat) (Q : Ex → St → Prop) : WC T bd54 env σ n lk Q = WC T (.block 1 (.seq (.reg [⟨(some 9), none, .load false 1 (.tmp 3)⟩,
 ⟨(some 10), none, .faddr (.tmp 4) 1⟩,
 ⟨(some 11), none, .load false 1 (.tmp 10)⟩,
 ⟨(some 12), none, .faddr (.tmp 4) 2⟩,
 ⟨(some 13), none, .faddr (.tmp 12) 2⟩,
 ⟨(some 14), none, .load false 1 (.tmp 13)⟩,
 ⟨(some 15), none, .callv (.tmp 9) [(.tmp 11), (.tmp 14)]⟩,
 ⟨(some 16), none, .un .not (.tmp 15)⟩])
 (.cond (.tmp 16)
  .ret
  .skip))) env σ n lk Q := rfl
theorem r55 (a : Option (List Cel)) (m0 m1 : Nat) : res T 55 [.agg [slV 5 celV a], .fn 56 [.box [.int .u64 (m0 : Int), .int .u64 (m1 : Int)]]] = some (.fn 83 [.box [slV 5 celV a], .box [.fn 56 [.box [.int .u64 (m0 : Int), .int .u64 (m1 : Int)]]]]) := by
 refine run_res (run_pure (fn := g55) rfl rfl (by decide) ?_)
 simp only [g55, b55, zO, zN, zM, zL, zG, zP, zQ, zI, zA, zT, zF, zB, zC, zD, zE, zH, zJ, zK]
 simp +contextual -implicitDefEqProofs (maxSteps := 2000000) only [↓wP, wS, seval]
def f55 (a : Option (List Cel)) (m0 m1 : Nat) := callE_tr (by decide) (r55 a m0 m1) (by simp [Tr, Tr_slV]) rfl
theorem cl_yld (l : Nat) : (V.yld l).cells = [.yld l] := rfl
theorem one_yld (l : Nat) : (V.yld l).one = true := rfl
theorem iter33 (a : Option (List Cel)) (m0 m1 : Nat) (h0 : W64 m0) (h1 : W64 m1) (hl : (lst a).length ≤ 96) : Iter 54 [.box [slV 5 celV a], .box [.int .u64 (m0 : Int), .int .u64 (m1 : Int)]] (sel m0 m1 (lst a)) 2 := by
 intro J D ok σ hfr hfD hy hJ0
 rw [sel_selC] at *
 refine run_rawE (fn := g54) rfl rfl ?_
 simp only [g54, b54, zO, zN, zM, zL, zG, zP, zQ, zI, zA, zT, zF, zB, zC, zD, zE, zH, zJ, zK]
 obtain ⟨MP, hMP⟩ : ∃ MP : Sto → Nat → Prop, MP = fun σ' n' => (((selC m0 m1 (lst a)).map rowC).all ok = true ∧ J ((selC m0 m1 (lst a)).map rowC) σ' n') ∨ (((selC m0 m1 (lst a)).map rowC).all ok = false ∧ D σ' n') := ⟨_, rfl⟩
 simp only [← congrFun (congrFun hMP _) _]
 have f := f55 a m0 m1
 simp +contextual -implicitDefEqProofs (maxSteps := 2000000) only [↓wP, wS, seval, cl_yld, one_yld, f]
 generalize hE : pt (pt (pt (pt (envOf [V.yld 5, V.box [slV 5 celV a], V.box [V.int IntKind.u64 (m0 : Int), V.int IntKind.u64 (m1 : Int)]]) 3 (V.ptr 6 1 0 0)) 5 (V.agg [slV 5 celV a])) 6 (V.fn 56 [V.box [V.int IntKind.u64 (m0 : Int), V.int IntKind.u64 (m1 : Int)]])) 7 (V.fn 83 [V.box [slV 5 celV a], V.box [V.fn 56 [V.box [V.int IntKind.u64 (m0 : Int), V.int IntKind.u64 (m1 : Int)]]]]) = env
 have e3 : env 3 = .ptr 6 1 0 0 := by rw [← hE]; rfl
 have e7 : env 7 = V.fn 83 [V.box [slV 5 celV a], V.box [V.fn 56 [V.box [V.int IntKind.u64 (m0 : Int), V.int IntKind.u64 (m1 : Int)]]]] := by rw [← hE]; rfl
 clear hE
 refine WC_rangeF (f := 83) (caps := [V.box [slV 5 celV a], V.box [V.fn 56 [V.box [V.int IntKind.u64 (m0 : Int), V.int IntKind.u64 (m1 : Int)]]]]) e7 (Nat.zero_le _) ?_
 refine run_mono _ _ _ (fun o ho => ?_) (raw83 a m0 m1 h0 h1 hl 7 (fun pre σ n => J (pre.map rowC) σ n ∧ 8 ≤ n ∧ σ 6 = some (.row 1 [.yld 5]) ∧ σ 7 = some (.loop env [8] asg54 bd54 .ready none))
  (fun σ n => D σ n ∧ σ 7 = some (.loop env [8] asg54 bd54 .done (some .ret))) (fun c => ok (rowC c)) ?_ ?_ _ _ ?_)
 ·cases o <;> try exact ho.elim
  rename_i v σ' n'
  rcases ho with ⟨hB, hJ, hn, h6, h7⟩ | ⟨hB, hD, h7⟩
  ·refine ⟨_, _, _, _, _, _, h7, by decide, ?_⟩
   have hmp : MP (upd σ' 7 none) n' := by
    rw [hMP]
    refine .inl ⟨by rw [List.all_map]; exact hB, hfr _ _ _ _ _ hJ (Nat.le_refl _) (fun i _ hi => ?_)⟩
    have : i ≠ 7 := by omega
    simp [upd, this]
   simp +contextual -implicitDefEqProofs (maxSteps := 2000000) only [↓wP, wS, seval, Option.getD_none]
   exact hmp
  ·refine ⟨_, _, _, _, _, _, h7, by decide, ?_⟩
   have hmp : MP (upd σ' 7 none) n' := by
    rw [hMP]
    refine .inr ⟨by rw [List.all_map]; exact hB, hfD _ _ _ _ hD (fun i hi => ?_)⟩
    have : i ≠ 7 := by omega
    simp [upd, this]
   simp +contextual -implicitDefEqProofs (maxSteps := 2000000) only [↓wP, wS, seval, Option.getD_some]
   exact hmp
 ·intro pre σ n σ' n' ⟨g1, g2, g3, g4⟩ hn hs
  exact ⟨hfr _ _ _ _ _ g1 hn (fun i hi _ => hs i hi), by omega, by rw [hs 6 (by omega), g3], by rw [hs 7 (by omega), g4]⟩
 ·intro pre c σ n ⟨g1, g2, g3, g4⟩ hc hp
  obtain ⟨YP, hYP⟩ : ∃ YP : V → Sto → Nat → Prop, YP = fun y σ' n' => (ok (rowC c) = true ∧ y = .bool true ∧ J ((pre ++ [c]).map rowC) σ' n' ∧ 8 ≤ n' ∧ σ' 6 = some (.row 1 [.yld 5]) ∧ σ' 7 = some (.loop env [8] asg54 bd54 .ready none)) ∨ (ok (rowC c) = false ∧ y = .bool false ∧ D σ' n' ∧ σ' 7 = some (.loop env [8] asg54 bd54 .done (some .ret))) := ⟨_, rfl⟩
  refine yieldW_mono (fun _ _ x => x) run_mono (fun y σ' n' (hh : YP y σ' n') => by rw [hYP] at hh; exact hh) ?_
  refine yieldW_gs g4 rfl (Nat.zero_le _) ?_
  have q7 : (7 = n) = False := by simp; omega
  have q6 : (6 = n) = False := by simp; omega
  have q8 : (n = 7) = False := by simp; omega
  obtain ⟨σ1, hσ1⟩ : ∃ σ1, σ1 = upd (upd (upd σ n (some (.row 5 [.agg [.bool false, .int .u64 0, .int .u64 0, .int .u64 0, .nilS]]))) n (some (.row 5 [celV c]))) 7 (some (.loop env [8] asg54 bd54 .busy none)) := ⟨_, rfl⟩
  have so : ∀ i, i ≠ 7 → i < n → σ1 i = σ i := fun i a1 a2 => by
   have : i ≠ n := by omega
   rw [hσ1]; simp [upd, this, a1]
  have sn : σ1 n = some (.row 5 [celV c]) := by rw [hσ1]; simp [upd, q8]
  have s6 : σ1 6 = some (.row 1 [.yld 5]) := by rw [so 6 (by decide) (by omega), g3]
  have s7 : σ1 7 = some (.loop env [8] asg54 bd54 .busy none) := by rw [hσ1]; simp [upd]
  have hJ1 := hfr _ _ _ σ1 (n + 1) g1 (by omega) (fun i hi h6 => so i (by omega) hi)
  have hy1 := hy _ (rowC c) σ1 (n + 1) hJ1 (by omega) (List.mem_map.2 ⟨c, hc, rfl⟩) (by rw [List.length_map, List.length_map]; exact hp)
  have hr1 : (rowC c).id = c.id := rfl
  have hr2 : (rowC c).v = c.v := rfl
  rw [hr1, hr2] at hy1
  rw [celV_eq] at sn hσ1
  simp +contextual -implicitDefEqProofs (maxSteps := 2000000) only [↓wP, wS, seval, cl_yld, bind_cons, bind_nil, w_asg54, w_bd54, e3, celV_eq, g4, q7, q6, q8, ← hσ1, s6, sn, s7]
  refine stepW_yld (yieldW_mono (fun _ _ x => x) run_mono (fun y σ' n' ⟨a1, a2, a3⟩ => ?_) hy1)
  have t6 := (a1 6 (by decide) (by decide)).trans s6
  have t7 := (a1 7 (by decide) (by decide)).trans s7
  rcases a3 with ⟨b1, rfl, b3⟩ | ⟨b1, rfl, b3⟩
  ·have hyp : YP (.bool true) (upd σ' 7 (some (.loop env [8] asg54 bd54 .ready none))) n' := by
    rw [hYP]
    refine .inl ⟨b1, rfl, ?_, by omega, by simp [upd, t6], by simp [upd]⟩
    rw [List.map_append]
    refine hfr _ _ _ _ _ b3 (Nat.le_refl _) (fun i _ hi => ?_)
    have : i ≠ 7 := by omega
    simp [upd, this]
   simp +contextual -implicitDefEqProofs (maxSteps := 2000000) only [↓wP, wS, seval, t7]
   exact .inl hyp
  ·have hyp : YP (.bool false) (upd σ' 7 (some (.loop env [8] asg54 bd54 .done (some .ret)))) n' := by
    rw [hYP]
    refine .inr ⟨b1, rfl, hfD _ _ _ _ b3 (fun i hi => ?_), by simp [upd]⟩
    have : i ≠ 7 := by omega
    simp [upd, this]
   simp +contextual -implicitDefEqProofs (maxSteps := 2000000) only [↓wP, wS, seval, t7]
   exact .inr hyp
 ·exact ⟨hJ0 _ 8 (by omega) (fun i hi => by
   have e1 : i ≠ 6 := by omega
   have e2 : i ≠ 7 := by omega
   simp [upd, e1, e2]), by omega, by simp [upd], by rfl⟩
end Go.Q.SD
end

section
/- Rows, gone over: what flat finds. -/
namespace Go.Q.SD
open Go.Q Go.Sort
theorem iter40 (o : Option (List Rw)) (hl : (lst o).length < 9223372036854775808) : Iter 69 [.box [slV 2 rwV o]] (lst o) 0 := by
 intro J D ok σ hfr hfD hy hJ0
 refine run_rawE (fn := g69) rfl rfl ?_
 simp only [g69, b69, zO, zN, zM, zL, zG, zP, zQ, zI, zA, zT, zF, zB, zC, zD, zE, zH, zJ, zK]
 obtain ⟨MP, hMP⟩ : ∃ MP : Sto → Nat → Prop, MP = fun σ' n' => ((lst o).all ok = true ∧ J (lst o) σ' n') ∨ ((lst o).all ok = false ∧ D σ' n') := ⟨_, rfl⟩
 simp only [← congrFun (congrFun hMP _) _]
 simp +contextual -implicitDefEqProofs (maxSteps := 2000000) only [↓wP, wS, seval]
 refine WC_for (lst o).length 0 (fun (j : Nat) env σ n => env 0 = .yld 5 ∧ env 5 = slV 2 rwV o ∧ 6 ≤ n ∧ ((lst o).take j).all ok = true ∧ J ((lst o).take j) σ n) (by omega) (by decide) (by decide) (fun _ _ => rfl) (fun _ _ _ => rfl) ?_ ?_ _ _ _ rfl rfl ?_
 ·intro j env σ n hj h1 h2 ⟨h3, h4, h5, h6, h7⟩
  simp only [vl_tmp] at h2
  have hx : (lst o)[j]? = some (lst o)[j] := List.getElem?_eq_getElem hj
  have hm : (lst o)[j] ∈ lst o := List.getElem_mem hj
  have ht : (lst o).take (j + 1) = (lst o).take j ++ [(lst o)[j]] := (List.take_append_getElem hj).symm
  generalize (lst o)[j] = x at *
  have hJ1 := hfr _ _ _ (upd (upd σ n (some (.row 2 [.agg [.int .u64 0, .nilS]]))) n (some (.row 2 [.agg [.int .u64 x.id, slV 1 i32V x.v]]))) (n + 1) h7 (by omega) (fun i hi _ => by
   have : i ≠ n := by omega
   simp [upd, this])
  simp +contextual -implicitDefEqProofs (maxSteps := 2000000) only [↓wP, wS, seval, h1, h2, h3, h4, hx, rwV_eq]
  refine stepW_yld (yieldW_mono (fun _ _ x => x) run_mono (fun y σ' n' ⟨a1, a2, a3⟩ => ?_) (hy _ x _ _ hJ1 (by omega) hm (by rw [List.length_take]; omega)))
  rcases a3 with ⟨b1, rfl, b3⟩ | ⟨b1, rfl, b3⟩
  ·have hall : ((lst o).take (j + 1)).all ok = true := by rw [ht, List.all_append, h6]; simp [b1]
   rw [← ht] at b3
   simp +contextual -implicitDefEqProofs (maxSteps := 2000000) only [↓wP, wS, seval, h1, h2, h3, h4]
   exact ⟨by omega, hall, b3⟩
  ·have hall : (lst o).all ok = false := by
    rw [List.all_eq_false]
    exact ⟨x, hm, by simp [b1]⟩
   have hmp : MP σ' n' := by rw [hMP]; exact .inr ⟨hall, b3⟩
   simp +contextual -implicitDefEqProofs (maxSteps := 2000000) only [↓wP, wS, seval, h1, h2, h3, h4]
   exact hmp
 ·intro env σ n ⟨h3, h4, h5, h6, h7⟩ h1 h2
  rw [List.take_length] at h6 h7
  have hmp : MP σ n := by rw [hMP]; exact .inl ⟨h6, h7⟩
  simp +contextual -implicitDefEqProofs (maxSteps := 2000000) only [↓wP, wS, seval]
  exact hmp
 ·simp +contextual -implicitDefEqProofs (maxSteps := 2000000) only [↓wP, wS, seval]
  simpa using hJ0 σ 6 (by omega) (fun _ _ => rfl)
def rowsE (q : Option (List Int)) (k : Int) (l : List Rw) : Int := if qE q k ≠ 0 then qE q k else if l.all okR = false then 170 else itE q l
def rowsL (q : Option (List Int)) (k : Int) (l : List Rw) : List Hit := if qE q k ≠ 0 then [] else if l.all okR = false then [] else itL q k.toNat l
theorem r33 (o : Option (List Rw)) (q : Option (List Int)) (k : Int) (hl : (lst o).length ≤ 300) (hv : ∀ r ∈ lst o, (lst r.v).length < 9223372036854775808) (hq : (lst q).length < 9223372036854775808) : res T 33 [slV 2 rwV o, .agg [slV 1 i32V q, .int .i64 k]] = some (.tup [ownH (rowsL q k (lst o)), .int .i64 (rowsE q k (lst o))]) := by
 refine run_res (run_own (fn := g33) rfl rfl (by decide) ?_)
 simp only [g33, b33, zO, zN, zM, zL, zG, zP, zQ, zI, zA, zT, zF, zB, zC, zD, zE, zH, zJ, zK]
 have f1 := f49 q k hq
 by_cases he : qE q k = 0
 ·obtain ⟨oq, hk1, hk2⟩ := qE_ok he
  rw [he] at f1
  simp +contextual -implicitDefEqProofs (maxSteps := 2000000) only [↓wP, wS, seval, f1]
  refine WC_for (lst o).length 0 (fun (j : Nat) env σ n => env 2 = .ptr 0 1 0 0 ∧ env 3 = .ptr 1 2 0 0 ∧ env 16 = slV 2 rwV o ∧ 2 ≤ n ∧ σ 0 = some (.row 1 [slV 2 rwV o]) ∧ σ 1 = some (.row 2 [.agg [slV 1 i32V q, .int .i64 k]]) ∧ ((lst o).take j).all okR = true) (by omega) (by decide) (by decide) (fun _ _ => rfl) (fun _ _ _ => rfl) ?_ ?_ _ _ _ rfl rfl ?_
  ·intro j env σ n hj h1 h2 ⟨h3, h4, h5, h6, h7, h8, h9⟩
   simp only [vl_tmp] at h2
   have hx : (lst o)[j]? = some (lst o)[j] := List.getElem?_eq_getElem hj
   have hm : (lst o)[j] ∈ lst o := List.getElem_mem hj
   have ht : (lst o).take (j + 1) = (lst o).take j ++ [(lst o)[j]] := (List.take_append_getElem hj).symm
   generalize (lst o)[j] = x at *
   have f30' := f30 x.id x.v (hv x hm)
   have q0 : (0 = n) = False := by simp; omega
   have q1 : (1 = n) = False := by simp; omega
   cases hb : okV x.v
   ·rw [hb] at f30'
    have hall : (lst o).all okR = false := by
     rw [List.all_eq_false]
     exact ⟨x, hm, by simp [okR, hb]⟩
    have e1 : rowsE q k (lst o) = 170 := by simp [rowsE, he, hall]
    have e2 : rowsL q k (lst o) = [] := by simp [rowsL, he, hall]
    rw [e1, e2]
    simp +contextual -implicitDefEqProofs (maxSteps := 2000000) only [↓wP, wS, seval, h1, h2, h3, h4, h5, hx, rwV_eq, f30', q0, q1]
    exact giv_tup2 (r := .nilS) ⟨rfl, by simp [gids]⟩ rfl rfl
   ·rw [hb] at f30'
    have hall : ((lst o).take (j + 1)).all okR = true := by rw [ht, List.all_append, h9]; simp [okR, hb]
    simp +contextual -implicitDefEqProofs (maxSteps := 2000000) only [↓wP, wS, seval, h1, h2, h3, h4, h5, h7, h8, hx, rwV_eq, f30', q0, q1]
    exact ⟨by omega, hall⟩
  ·intro env σ n ⟨h3, h4, h5, h6, h7, h8, h9⟩ h1 h2
   rw [List.take_length] at h9
   obtain ⟨kn, rfl⟩ : ∃ kn : Nat, k = (kn : Int) := ⟨k.toNat, by omega⟩
   have e1 : rowsE q (kn : Int) (lst o) = itE q (lst o) := by simp [rowsE, he, h9]
   have e2 : rowsL q (kn : Int) (lst o) = itL q kn (lst o) := by simp [rowsL, he, h9]
   rw [e1, e2]
   have r := r53 q kn 69 [.box [slV 2 rwV o]] (lst o) 0 oq (by omega) (by omega) (fun x hx => List.all_eq_true.1 h9 x hx) (by omega) (iter40 o (by omega))
   have hlen : ¬ (2000 : Int) < ((lst o).length : Int) := by omega
   have q0 : (0 = n) = False := by simp; omega
   have q1 : (1 = n) = False := by simp; omega
   obtain ⟨σ1, hσ1⟩ : ∃ σ1, σ1 = upd (upd σ n (some (.row 2 [.agg [.nilS, .int .i64 0]]))) n (some (.row 2 [.agg [slV 1 i32V q, .int .i64 (kn : Int)]])) := ⟨_, rfl⟩
   have s0 : σ1 0 = some (.row 1 [slV 2 rwV o]) := by rw [hσ1]; simp [upd, q0, h7]
   have sn : σ1 n = some (.row 2 [.agg [slV 1 i32V q, .int .i64 (kn : Int)]]) := by rw [hσ1]; simp [upd]
   have e : [V.agg [slV 1 i32V q, .int .i64 (kn : Int)], V.fn 69 [.ptr 0 1 0 0], V.bnd 58 [.agg [slV 1 i32V q, .int .i64 (kn : Int)]]].mapM (frz σ1 12) =
    some [V.agg [slV 1 i32V q, .int .i64 (kn : Int)], V.fn 69 [.box [slV 2 rwV o]], V.bnd 58 [.agg [slV 1 i32V q, .int .i64 (kn : Int)]]] := by
    have x1 : frz σ1 12 (.agg [slV 1 i32V q, .int .i64 (kn : Int)]) = some (.agg [slV 1 i32V q, .int .i64 (kn : Int)]) := (frz_tr σ1 12 _ (by simp [Tr, Tr_slV])).1
    have x2 : frz σ1 12 (.bnd 58 [.agg [slV 1 i32V q, .int .i64 (kn : Int)]]) = some (.bnd 58 [.agg [slV 1 i32V q, .int .i64 (kn : Int)]]) := (frz_tr σ1 12 _ (by simp [Tr, Tr_slV])).1
    have x3 : frz σ1 12 (.fn 69 [.ptr 0 1 0 0]) = some (.fn 69 [.box [slV 2 rwV o]]) := by
     simp only [frz, rowAt, s0, List.mapM_cons, List.mapM_nil, if_true, List.getElem?_cons_zero, Option.bind_some, cl_slV, List.drop_zero, frz_slV]
     rfl
    simp only [List.mapM_cons, List.mapM_nil, x1, x2, x3]
    rfl
   have f53 := callE_flat (by decide) e r (flat_tup2 (flat_ownH _) rfl) true (n + 1) 0
   rw [thaw_hTup] at f53
   have hg := hVal_giv11 σ1 (n + 1) (itL q kn (lst o))
   simp +contextual -implicitDefEqProofs (maxSteps := 2000000) only [↓wP, wS, seval, h1, h2, h3, h4, h5, h7, h8, hlen, q0, q1, ← hσ1, sn, f53]
   exact giv_tup2 hg rfl rfl
  ·simp +contextual -implicitDefEqProofs (maxSteps := 2000000) only [↓wP, wS, seval]
 ·have hd : (qE q k != 0) = true := by simpa using he
  have e1 : rowsE q k (lst o) = qE q k := by simp [rowsE, he]
  have e2 : rowsL q k (lst o) = [] := by simp [rowsL, he]
  rw [e1, e2]
  simp +contextual -implicitDefEqProofs (maxSteps := 2000000) only [↓wP, wS, seval, f1, hd]
  exact giv_tup2 (r := .nilS) ⟨rfl, by simp [gids]⟩ rfl rfl
end Go.Q.SD
end

section
/- FlatScans. -/
namespace Go.Q.SD
open Go.Q Go.Sort
def scanE (a : Option (List Cel)) (m0 m1 : Nat) (q : Option (List Int)) (k : Int) : Int := if qE q k ≠ 0 then qE q k else if okA a = false then 190 else itE q (sel m0 m1 (lst a))
def scanL (a : Option (List Cel)) (m0 m1 : Nat) (q : Option (List Int)) (k : Int) : List Hit := if qE q k ≠ 0 then [] else if okA a = false then [] else itL q k.toNat (sel m0 m1 (lst a))
theorem sel_ok {a : Option (List Cel)} (m0 m1 : Nat) (h : okA a = true) : ∀ x ∈ sel m0 m1 (lst a), okV x.v = true := by
 intro x hx
 simp only [okA, Bool.and_eq_true] at h
 rw [sel_selC] at hx
 obtain ⟨c, hc, rfl⟩ := List.mem_map.1 hx
 unfold selC at hc
 obtain ⟨p, hp, rfl⟩ := List.mem_map.1 hc
 obtain ⟨hp1, hp2⟩ := List.mem_filter.1 hp
 have hm : p.1 ∈ lst a := by
  have := List.mem_zipIdx_iff_getElem?.1 hp1
  exact List.mem_of_getElem? this
 have hk := List.all_eq_true.1 h.2 _ hm
 simp only [Bool.and_eq_true] at hp2
 simp only [okCel, hp2.1, if_true, okVer, Bool.and_eq_true] at hk
 exact hk.2
theorem Nw_tup2 {k : Nat} {a b : V} (h : Nw k a = true) (h' : Nw k b = true) : Nw (k + 1) (.tup [a, b]) = true := by simp [Nw, h, h']
theorem r24 (a : Option (List Cel)) (m0 m1 : Nat) (q : Option (List Int)) (k : Int) (ha : SmA a) (h0 : W64 m0) (h1 : W64 m1) (hq : (lst q).length < 9223372036854775808) : res T 24 [.agg [slV 5 celV a], .agg [.int .u64 (m0 : Int), .int .u64 (m1 : Int)], .agg [slV 1 i32V q, .int .i64 k]] = some (.tup [slV 2 hitV (optH (scanL a m0 m1 q k)), .int .i64 (scanE a m0 m1 q k)]) := by
 refine run_res (run_pure (fn := g24) rfl rfl (by decide) ?_)
 simp only [g24, b24, zO, zN, zM, zL, zG, zP, zQ, zI, zA, zT, zF, zB, zC, zD, zE, zH, zJ, zK]
 have f1 := f49 q k hq
 have f2 := f15 a ha
 by_cases he : qE q k = 0
 ·obtain ⟨oq, hk1, hk2⟩ := qE_ok he
  rw [he] at f1
  cases hA : okA a
  ·have e0 : arE a = 190 := by simp [arE, hA]
   have e1 : scanE a m0 m1 q k = 190 := by simp [scanE, he, hA]
   have e2 : scanL a m0 m1 q k = [] := by simp [scanL, he, hA]
   rw [e0] at f2
   rw [e1, e2]
   simp +contextual -implicitDefEqProofs (maxSteps := 2000000) only [↓wP, wS, seval, f1, f2]
   rfl
  ·have e0 : arE a = 0 := by simp [arE, hA]
   have hl : (lst a).length = 96 := by simp only [okA, Bool.and_eq_true, decide_eq_true_eq] at hA; exact hA.1
   obtain ⟨kn, rfl⟩ : ∃ kn : Nat, k = (kn : Int) := ⟨k.toNat, by omega⟩
   have e1 : scanE a m0 m1 q (kn : Int) = itE q (sel m0 m1 (lst a)) := by simp [scanE, he, hA]
   have e2 : scanL a m0 m1 q (kn : Int) = itL q kn (sel m0 m1 (lst a)) := by simp [scanL, he, hA]
   rw [e0] at f2
   rw [e1, e2]
   have r := r53 q kn 54 _ (sel m0 m1 (lst a)) 2 oq (by omega) (by omega) (sel_ok m0 m1 hA) (by have := sel_len m0 m1 (lst a); omega) (iter33 a m0 m1 h0 h1 (by omega))
   obtain ⟨σ1, hσ1⟩ : ∃ σ1, σ1 = upd (upd (upd (upd (upd Sto.empty 0 (some (.row 1 [.agg [slV 5 celV a]]))) 1 (some (.row 2 [.agg [.int .u64 (m0 : Int), .int .u64 (m1 : Int)]]))) 2 (some (.row 2 [.agg [slV 1 i32V q, .int .i64 (kn : Int)]]))) 3 (some (.row 2 [.agg [.nilS, .int .i64 0]]))) 3 (some (.row 2 [.agg [slV 1 i32V q, .int .i64 (kn : Int)]])) := ⟨_, rfl⟩
   have s0 : σ1 0 = some (.row 1 [.agg [slV 5 celV a]]) := by rw [hσ1]; simp [upd]
   have s1 : σ1 1 = some (.row 2 [.agg [.int .u64 (m0 : Int), .int .u64 (m1 : Int)]]) := by rw [hσ1]; simp [upd]
   have s3 : σ1 3 = some (.row 2 [.agg [slV 1 i32V q, .int .i64 (kn : Int)]]) := by rw [hσ1]; simp [upd]
   have e : [V.agg [slV 1 i32V q, .int .i64 (kn : Int)], V.fn 54 [.ptr 0 1 0 0, .ptr 1 2 0 0], V.bnd 58 [.agg [slV 1 i32V q, .int .i64 (kn : Int)]]].mapM (frz σ1 12) =
    some [V.agg [slV 1 i32V q, .int .i64 (kn : Int)], V.fn 54 [.box [slV 5 celV a], .box [.int .u64 (m0 : Int), .int .u64 (m1 : Int)]], V.bnd 58 [.agg [slV 1 i32V q, .int .i64 (kn : Int)]]] := by
    have x1 : frz σ1 12 (.agg [slV 1 i32V q, .int .i64 (kn : Int)]) = some (.agg [slV 1 i32V q, .int .i64 (kn : Int)]) := (frz_tr σ1 12 _ (by simp [Tr, Tr_slV])).1
    have x2 : frz σ1 12 (.bnd 58 [.agg [slV 1 i32V q, .int .i64 (kn : Int)]]) = some (.bnd 58 [.agg [slV 1 i32V q, .int .i64 (kn : Int)]]) := (frz_tr σ1 12 _ (by simp [Tr, Tr_slV])).1
    have x3 : frz σ1 12 (.fn 54 [.ptr 0 1 0 0, .ptr 1 2 0 0]) = some (.fn 54 [.box [slV 5 celV a], .box [.int .u64 (m0 : Int), .int .u64 (m1 : Int)]]) := by
     simp only [frz, rowAt, s0, s1, List.mapM_cons, List.mapM_nil, if_true, List.getElem?_cons_zero, Option.bind_some, V.cells, List.drop_zero, frz_slV]
     rfl
    simp only [List.mapM_cons, List.mapM_nil, x1, x2, x3]
    rfl
   have f53 := callE_flat (by decide) e r (flat_tup2 (flat_ownH _) rfl) true 4 0
   rw [thaw_hTup] at f53
   simp +contextual -implicitDefEqProofs (maxSteps := 2000000) only [↓wP, wS, seval, f1, f2, ← hσ1, s3, f53]
   have hh : frz (hSto σ1 4 (itL q kn (sel m0 m1 (lst a)))) 11 (hVal 4 (itL q kn (sel m0 m1 (lst a)))) = some (slV 2 hitV (optH (itL q kn (sel m0 m1 (lst a))))) :=
    hVal_frz (fun hne => by unfold hSto; rw [if_neg hne]; simp [upd]) 8
   rw [hh]
   rfl
 ·have hd : (qE q k != 0) = true := by simpa using he
  have e1 : scanE a m0 m1 q k = qE q k := by simp [scanE, he]
  have e2 : scanL a m0 m1 q k = [] := by simp [scanL, he]
  rw [e1, e2]
  simp +contextual -implicitDefEqProofs (maxSteps := 2000000) only [↓wP, wS, seval, f1, hd]
  rfl
theorem f24 (a : Option (List Cel)) (m0 m1 : Nat) (q : Option (List Int)) (k : Int) (ha : SmA a) (h0 : W64 m0) (h1 : W64 m1) (hq : (lst q).length < 9223372036854775808) (fs : Bool) (σ : Sto) (n lk : Nat) :
 callE T fs 24 [.agg [slV 5 celV a], .agg [.int .u64 (m0 : Int), .int .u64 (m1 : Int)], .agg [slV 1 i32V q, .int .i64 k]] σ n lk = some (.tup [slV 2 hitV (optH (scanL a m0 m1 q k)), .int .i64 (scanE a m0 m1 q k)], σ, n) :=
 callE_tr (by decide) (r24 a m0 m1 q k ha h0 h1 hq) (by simp [Tr, Tr_slV]) (Nw_tup2 (Nw_slV 2 hitV _ 10) rfl) fs σ n lk
end Go.Q.SD
end

section
/- Rows and probes that can be gone through. -/
namespace Go.Q.SD
open Go.Q Go.Sort
theorem r6 (q : Vc) (k ts m : Int) (hq : Sm q) : res T 6 [.agg [slV 1 i32V q, .int .i64 k, .int .u64 ts, .int .i64 m]] = some (.agg [slV 1 i32V (cut q), .int .i64 k, .int .u64 ts, .int .i64 m]) := by
 refine run_res (run_pure (fn := g6) rfl rfl (by decide) ?_)
 simp only [g6, b6, zO, zN, zM, zL, zG, zP, zQ, zI, zA, zT, zF, zB, zC, zD, zE, zH, zJ, zK]
 have f := f14 q hq
 simp +contextual -implicitDefEqProofs (maxSteps := 2000000) only [↓wP, wS, seval, f]
def f6 (q : Vc) (k ts m : Int) (hq : Sm q) := callE_tr (by decide) (r6 q k ts m hq) (by simp [Tr, Tr_slV]) (by simp [Nw, Nw_slV])
end Go.Q.SD
end

section
/- What the document finds among rows. -/
namespace Go.Q.SD
open Go.Q Go.Sort
end Go.Q.SD
end

section
/- The law's lists. -/
namespace Go.Q.SD
open Go.Q
end Go.Q.SD
end

section
/- What is read out of the store is read out with less depth, too, if it is not deep. -/
namespace Go.Q
def dp : Nat → V → Bool
 | k + 1, .sl _ ts => ts.all fun t => t.cells.all (dp k)
 | k + 1, .agg cs => cs.all (dp k)
 | _ + 1, .int _ _ => true
 | _ + 1, .bool _ => true
 | _ + 1, .str _ => true
 | _ + 1, .nilS => true
 | _, _ => false
theorem mapM_dn {f g : V → Option V} {p : V → Bool} (h : ∀ x t, f x = some t → p t = true → g x = some t) : ∀ (l m : List V), l.mapM f = some m → m.all p = true → l.mapM g = some m
 | [], m, e, _ => by simpa using e
 | x :: l, m, e, hp => by
   simp only [List.mapM_cons, Option.pure_def, Option.bind_eq_bind, Option.bind_eq_some_iff, Option.some.injEq] at e ⊢
   obtain ⟨t, ht, m', hm, rfl⟩ := e
   simp only [List.all_cons, Bool.and_eq_true] at hp
   exact ⟨t, h x t ht hp.1, m', mapM_dn h l m' hm hp.2, rfl⟩
theorem frz_agg' {σ : Sto} {k : Nat} {x : V} {ds : List V} (h : frz σ k x = some (.agg ds)) : ∃ cs, x = .agg cs := by
 cases k with
 | zero => cases x <;> simp [frz] at h
 | succ k =>
   cases x with
   | agg cs => exact ⟨cs, rfl⟩
   | _ => simp [frz, Option.bind_eq_some_iff] at h
theorem elemM_dn {σ : Sto} {k k' : Nat} (h : ∀ x t, frz σ k x = some t → dp k' t = true → frz σ k' x = some t) (x y : V) (e : elemM (frz σ k) x = some y) (hp : y.cells.all (dp k') = true) : elemM (frz σ k') x = some y := by
 unfold elemM at e ⊢
 split at e
 ·simp only [Option.map_eq_some_iff] at e ⊢
  obtain ⟨m, hm, rfl⟩ := e
  exact ⟨m, mapM_dn h _ _ hm hp, rfl⟩
 ·rename_i hx
  have hy : y.cells = [y] := by
   cases y with
   | agg ds => obtain ⟨cs, rfl⟩ := frz_agg' e; exact absurd rfl (hx _)
   | _ => rfl
  rw [hy] at hp
  exact h _ _ e (by simpa using hp)
theorem frz_dn {σ : Sto} : ∀ (k : Nat) (v t : V), frz σ (k + 1) v = some t → dp k t = true → frz σ k v = some t
 | 0, v, t, _, hp => by cases t <;> simp [dp] at hp
 | k + 1, v, t, h, hp => by
   have ih := frz_dn (σ := σ) k
   cases v with
   | ref id off len sz =>
     simp only [frz, Option.bind_eq_some_iff, Option.map_eq_some_iff] at h ⊢
     obtain ⟨xs, h1, ts, h2, rfl⟩ := h
     exact ⟨xs, h1, ts, mapM_dn (p := fun t => t.cells.all (dp k)) (elemM_dn ih) _ _ h2 (by simpa [dp] using hp), rfl⟩
   | agg cs =>
     simp only [frz, Option.map_eq_some_iff] at h ⊢
     obtain ⟨m, hm, rfl⟩ := h
     exact ⟨m, mapM_dn ih _ _ hm (by simpa [dp] using hp), rfl⟩
   | int | bool | str | nilS | sl => exact h
   | _ => (simp [frz, Option.bind_eq_some_iff] at h) <;> first | (subst h; simp [dp] at hp) | (obtain ⟨_, _, rfl⟩ := h; simp [dp] at hp) | (obtain ⟨_, _, _, _, rfl⟩ := h; simp [dp] at hp)
end Go.Q
end

section
/- The law's arena. -/
namespace Go.Q.SD
open Go.Q
def cutC (c : Cel) : Cel := ⟨c.u, c.id, c.b, c.e, oL ((lst c.v).take 5)⟩
def cutA (a : Option (List Cel)) : Option (List Cel) := oL (((lst a).take 97).map cutC)
theorem dp_i32 (k : Nat) (o : Option (List Int)) : dp (k + 2) (slV 1 i32V o) = true := by
 cases o with
 | none => rfl
 | some l =>
   simp only [slV, dp, List.all_eq_true, List.mem_map]
   rintro _ ⟨x, -, rfl⟩ c hc
   simp only [i32V, V.cells, List.mem_cons, List.not_mem_nil, or_false] at hc
   subst hc; rfl
theorem dp_cel (k : Nat) (o : Option (List Cel)) : dp (k + 3) (slV 5 celV o) = true := by
 cases o with
 | none => rfl
 | some l =>
   simp only [slV, dp, List.all_eq_true, List.mem_map]
   rintro _ ⟨x, -, rfl⟩ c hc
   simp only [celV_eq, V.cells, List.mem_cons, List.not_mem_nil, or_false] at hc
   rcases hc with rfl | rfl | rfl | rfl | rfl
   ·rfl
   ·rfl
   ·rfl
   ·rfl
   ·exact dp_i32 _ _
theorem fz_cel {σ : Sto} {i : Nat} (u : Bool) (a b c : Int) {l : List Int} (h : σ i = some (.row 1 (l.map i32V))) {S : Nat → Prop} (hS : S i) :
 FzL σ 11 [.agg [.bool u, .int .u64 a, .int .u64 b, .int .u64 c, .ref i 0 l.length 1]] [.agg [.bool u, .int .u64 a, .int .u64 b, .int .u64 c, slV 1 i32V (some l)]] S := by
 obtain ⟨h1, h2⟩ : Fz σ 11 (.ref i 0 l.length 1) (slV 1 i32V (some l)) S := by
  have := Fz.ref (k := 10) h hS (FzL.trees (fun x hx => by obtain ⟨y, -, rfl⟩ := List.mem_map.1 hx; rfl) (fun x hx c hc => by obtain ⟨y, -, rfl⟩ := List.mem_map.1 hx; simp only [i32V, V.cells, List.mem_cons, List.not_mem_nil, or_false] at hc; subst hc; rfl))
  rw [List.length_map] at this
  exact this
 refine ⟨?_, ?_⟩
 ·simp only [List.mapM_cons, List.mapM_nil, elemM, h1]
  rfl
 ·intro x hx c hc id hid
  rw [List.mem_singleton] at hx
  subst hx
  simp only [V.cells, List.mem_cons, List.not_mem_nil, or_false] at hc
  rcases hc with rfl | rfl | rfl | rfl | rfl
  ·simp [rch] at hid
  ·simp [rch] at hid
  ·simp [rch] at hid
  ·simp [rch] at hid
  ·exact h2 id hid
theorem r5 (a : Option (List Cel)) (hl : (lst a).length < 4611686018427387904) (hv : ∀ c ∈ lst a, Sm c.v) : res T 5 [.agg [slV 5 celV a]] = some (.agg [slV 5 celV (cutA a)]) := by
 refine run_res (run_pure (fn := g5) rfl rfl (by decide) ?_)
 simp only [g5, b5, zO, zN, zM, zL, zG, zP, zQ, zI, zA, zT, zF, zB, zC, zD, zE, zH, zJ, zK]
 simp +contextual -implicitDefEqProofs (maxSteps := 2000000) only [↓wP, wS, seval]
 refine WC_for (lst a).length 0 (fun (j : Nat) env σ n => env 7 = slV 5 celV a ∧ env 2 = .ptr 1 1 0 0 ∧ env 3 = .ptr 2 1 0 0 ∧ 3 ≤ n ∧ σ 1 = some (.row 1 [.agg [.nilS]]) ∧ ∃ v, σ 2 = some (.row 1 [.agg [v]]) ∧ Bls σ 5 v (oL ((((lst a).take (min j 97)).map cutC).map celV)) (fun i => 3 ≤ i ∧ i < n)) (by omega) (by decide) (by decide) (fun _ _ => rfl) (fun _ _ _ => rfl) ?_ ?_ _ _ _ rfl rfl ?_
 ·intro j env σ n hj h1 h2 ⟨h3, e2, e3, hn, h1s, v, h4, h5⟩
  simp only [vl_tmp] at h2
  have hx : (lst a)[j]? = some (lst a)[j] := List.getElem?_eq_getElem hj
  have ht : (lst a).take (j + 1) = (lst a).take j ++ [(lst a)[j]] := (List.take_append_getElem hj).symm
  have hs := hv _ (List.getElem_mem hj)
  generalize (lst a)[j] = x at *
  have hc := h5.cells
  have q2 : (2 = n) = False := by simp; omega
  have q1 : (1 = n) = False := by simp; omega
  have q3 : (n + 1 = n) = False := by simp
  have q4 : (2 = n + 1) = False := by simp; omega
  by_cases hj97 : j ≤ 96
  rotate_left
  ·have hd : decide ((j : Int) ≤ 96) = false := by simp; omega
   have hmn : min (j + 1) 97 = min j 97 := by omega
   simp +contextual -implicitDefEqProofs (maxSteps := 2000000) only [↓wP, wS, seval, h1, h2, h3, e2, e3, hx, celV_eq, hd, q2, h4]
   refine ⟨by omega, by rw [if_neg (by omega)]; exact h1s, v, rfl, ?_⟩
   rw [hmn]
   exact h5.loc (fun i hi => by rw [upd_ne (by omega), upd_ne (by omega)]) (fun i hi => ⟨hi.1, by omega⟩)
  have hd : decide ((j : Int) ≤ 96) = true := by simp; omega
  have hle : (if (5 : Int) < ((lst x.v).length : Int) then 5 else ((lst x.v).length : Int)) = ((min (lst x.v).length 5 : Nat) : Int) := by split <;> omega
  have hmn : min (lst x.v).length 5 ≤ (lst x.v).length := by omega
  obtain ⟨sD, hsD⟩ : ∃ sD, sD = sub x.v 0 (min (lst x.v).length 5) := ⟨_, rfl⟩
  have hlD : lst sD = (lst x.v).take 5 := by rw [hsD, lst_sub, List.drop_zero, Nat.min_comm]; exact List.take_eq_take_min.symm
  have hmj : min j 97 = j := by omega
  have hmj1 : min (j + 1) 97 = j + 1 := by omega
  rw [hmj] at h5
  obtain ⟨σ1, hσ1⟩ : ∃ σ1, σ1 = upd (upd σ n (some (.row 5 [.agg [.bool false, .int .u64 0, .int .u64 0, .int .u64 0, .nilS]]))) n (some (.row 5 [.agg [.bool x.u, .int .u64 x.id, .int .u64 x.b, .int .u64 x.e, slV 1 i32V x.v]])) := ⟨_, rfl⟩
  have so : ∀ i, i < n → σ1 i = σ i := fun i hi => by rw [hσ1, upd_ne (by omega), upd_ne (by omega)]
  have sn : σ1 n = some (.row 5 [.agg [.bool x.u, .int .u64 x.id, .int .u64 x.b, .int .u64 x.e, slV 1 i32V x.v]]) := by rw [hσ1, upd_self]
  have s2 : σ1 2 = some (.row 1 [.agg [v]]) := by rw [so 2 (by omega), h4]
  have hne : ∀ i, n ≤ i → ∀ off len s, v ≠ .ref i off len s := by
   intro i hi off len s e
   subst e
   have := Bls.ids h5 ⟨off, len, s, rfl⟩
   omega
  have h2e : ∀ off len s, v ≠ .ref 2 off len s := by
   intro off len s e
   subst e
   have := Bls.ids h5 ⟨off, len, s, rfl⟩
   omega
  have hcel : celV (cutC x) = .agg [.bool x.u, .int .u64 x.id, .int .u64 x.b, .int .u64 x.e, slV 1 i32V (oL ((lst x.v).take 5))] := rfl
  have hlim : ((((lst a).take j).map cutC).map celV).length + 1 ≤ 1000000 := by simp only [List.length_map, List.length_take]; omega
  by_cases hemp : lst sD = []
  ·have hem : (List.map i32V (lst sD)).isEmpty = true := by rw [hemp]; rfl
   have hcut : oL ((lst x.v).take 5) = none := by rw [← hlD, hemp]; rfl
   simp +contextual -implicitDefEqProofs (maxSteps := 2000000) only [↓wP, wS, seval, h1, h2, h3, e2, e3, hx, celV_eq, hd, q2, q3, q4, h4, hle, hmn, ← hsD, appendE_nil, hem, ← hσ1, sn, s2, so]
   generalize hσ2 : upd _ (n + 1) _ = σ2
   have so2 : ∀ i, i < n → σ2 i = σ i := fun i hi => by
    rw [← hσ2, upd_ne (by omega), upd_ne (by omega), so i hi]
   have h5' := h5.loc (S' := fun i => 3 ≤ i ∧ i < n) (fun i hi => so2 i hi.2) (fun i hi => hi)
   refine stepW_appS (us := [celV (cutC x)]) (S' := fun i => 3 ≤ i) h5' (fun i hi => by omega) (fun i hi => hi.1) (by omega) ?_ ?_ (fun v' σ' n' g1 g2 g3 g4 => ?_)
   ·rw [hcel, hcut]
    exact FzL.trees (fun x hx => by simp only [List.mem_singleton] at hx; subst hx; rfl) (fun x hx c hc => by simp only [List.mem_singleton] at hx; subst hx; simp only [V.cells, List.mem_cons, List.not_mem_nil, or_false] at hc; rcases hc with rfl | rfl | rfl | rfl | rfl <;> rfl)
   ·rw [lst_oL, List.length_singleton]; unfold LIM; omega
   ·have t1 := (g4 1 (by omega) (by intro off len s e; subst e; have := Bls.ids h5 ⟨off, len, s, rfl⟩; omega)).trans ((so2 1 (by omega)).trans h1s)
    have t2 := (g4 2 (by omega) h2e).trans ((so2 2 (by omega)).trans h4)
    simp +contextual -implicitDefEqProofs (maxSteps := 2000000) only [↓wP, wS, seval, h1, h2, h3, e2, e3, t2, g1.cells, g1.one]
    refine ⟨by omega, t1, _, rfl, ?_⟩
    rw [hmj1, ht, List.map_append, List.map_append, ← appO_oL]
    exact g1.loc (fun i hi => by rw [upd_ne (by omega)]) (fun i hi => ⟨hi.1, hi.2⟩)
  ·have hem : (List.map i32V (lst sD)).isEmpty = false := by cases h : lst sD with
    | nil => exact absurd h hemp
    | cons => rfl
   have hml : (List.map i32V (lst sD)).length * 4 ≤ LIM := by rw [List.length_map, hlD, List.length_take]; unfold LIM; omega
   simp +contextual -implicitDefEqProofs (maxSteps := 2000000) only [↓wP, wS, seval, h1, h2, h3, e2, e3, hx, celV_eq, hd, q2, q3, q4, h4, hle, hmn, ← hsD, appendE_nil, hem, hml, ← hσ1, sn, s2, so]
   generalize hσ2 : upd _ (n + 2) _ = σ2
   have so2 : ∀ i, i < n → σ2 i = σ i := fun i hi => by
    rw [← hσ2, upd_ne (by omega), upd_ne (by omega), upd_ne (by omega), so i hi]
   have h5' := h5.loc (S' := fun i => 3 ≤ i ∧ i < n) (fun i hi => so2 i hi.2) (fun i hi => hi)
   refine stepW_appS (us := [celV (cutC x)]) (S' := fun i => 3 ≤ i) h5' (fun i hi => by omega) (fun i hi => hi.1) (by omega) ?_ ?_ (fun v' σ' n' g1 g2 g3 g4 => ?_)
   ·have hcut : oL ((lst x.v).take 5) = some (lst sD) := by
     rw [← hlD]; cases h : lst sD with
     | nil => exact absurd h hemp
     | cons => rfl
    rw [hcel, hcut, List.length_map]
    exact fz_cel x.u x.id x.b x.e (by rw [← hσ2, upd_ne (by omega), upd_ne (by omega), upd_self]) ⟨by omega, by omega, hne _ (by omega)⟩
   ·rw [lst_oL, List.length_singleton]; unfold LIM; omega
   ·have t1 := (g4 1 (by omega) (by intro off len s e; subst e; have := Bls.ids h5 ⟨off, len, s, rfl⟩; omega)).trans ((so2 1 (by omega)).trans h1s)
    have t2 := (g4 2 (by omega) h2e).trans ((so2 2 (by omega)).trans h4)
    simp +contextual -implicitDefEqProofs (maxSteps := 2000000) only [↓wP, wS, seval, h1, h2, h3, e2, e3, t2, g1.cells, g1.one]
    refine ⟨by omega, t1, _, rfl, ?_⟩
    rw [hmj1, ht, List.map_append, List.map_append, ← appO_oL]
    exact g1.loc (fun i hi => by rw [upd_ne (by omega)]) (fun i hi => ⟨hi.1, hi.2⟩)
 ·intro env σ n ⟨h3, e2, e3, hn, h1s, v, h4, h5⟩ h1 h2
  have hmm : (lst a).take (min (lst a).length 97) = (lst a).take 97 := by rw [Nat.min_comm]; exact List.take_eq_take_min.symm
  rw [hmm] at h5
  have hf : ∀ o, frz (upd σ 1 o) 11 v = some (slV 5 celV (oL (((lst a).take 97).map cutC))) := fun o => by
   have h5' := h5.loc (σ' := upd σ 1 o) (S' := fun i => 3 ≤ i ∧ i < n) (fun i hi => by rw [upd_ne (by omega)]) (fun i hi => hi)
   rw [← slV_oL]
   exact frz_dn 11 _ _ h5'.frz (by rw [slV_oL]; exact dp_cel 8 _)
  simp +contextual -implicitDefEqProofs (maxSteps := 2000000) only [↓wP, wS, seval, e2, e3, h4, h1s, h5.cells, h5.one, hf]
  rfl
 ·simp +contextual -implicitDefEqProofs (maxSteps := 2000000) only [↓wP, wS, seval]
  simp [oL, Bls]
def f5 (a : Option (List Cel)) (hl : (lst a).length < 4611686018427387904) (hv : ∀ c ∈ lst a, Sm c.v) := callE_tr (by decide) (r5 a hl hv) (by simp [Tr, Tr_slV]) (by simp [Nw, Nw_slV])
end Go.Q.SD
end

section
/- What is found in an arena: the program. -/
namespace Go.Q.SD
open Go.Q Go.Sort
def ixN (q : Vc) (c : List Vc) (m : Int) : List Nat := (near q c m).map Int.toNat
theorem near_pos {q : Vc} {c : List Vc} {m : Int} : ∀ i ∈ near q c m, 0 ≤ i ∧ i < c.length := by
 intro i hi
 unfold near at hi
 obtain ⟨h, hh, rfl⟩ := List.mem_map.1 hi
 exact ct_id (List.mem_of_mem_take hh)
theorem ixN_iV (q : Vc) (c : List Vc) (m : Int) : (near q c m).map iV = (ixN q c m).map nV := by
 unfold ixN
 rw [List.map_map]
 refine List.map_congr_left fun i hi => ?_
 have := near_pos i hi
 simp only [iV, nV, Function.comp_apply]
 rw [Int.toNat_of_nonneg this.1]
theorem ixN_lt {q : Vc} {c : List Vc} {m : Int} : ∀ i ∈ ixN q c m, i < c.length := by
 intro i hi
 obtain ⟨x, hx, rfl⟩ := List.mem_map.1 hi
 have := near_pos x hx
 omega
theorem iVal_frz {σ : Sto} {n : Nat} {q : Vc} {c : List Vc} {m : Int} {k : Nat} (h : near q c m ≠ [] → σ n = some (.row 1 ((near q c m).map iV))) :
 frz σ (k + 2) (iVal n (near q c m)) = some (slV 1 nV (oL (ixN q c m))) := by
 rw [← slV_oL, ← ixN_iV]
 by_cases hL : near q c m = []
 ·unfold iVal
  rw [hL, if_pos rfl]
  rfl
 ·unfold iVal
  rw [if_neg hL]
  have := (Fz.ref (k := k + 1) (S := fun _ => True) (h hL) trivial (FzL.trees (fun x hx => by obtain ⟨y, -, rfl⟩ := List.mem_map.1 hx; rfl) (fun x hx c hc => by
   obtain ⟨y, -, rfl⟩ := List.mem_map.1 hx
   simp only [iV, V.cells, List.mem_cons, List.not_mem_nil, or_false] at hc
   subst hc; rfl))).1
  rw [List.length_map] at this
  rw [this]
  cases h : near q c m with
  | nil => exact absurd h hL
  | cons => simp [oL, slV]
theorem visM_wm (t : Int) (a : Option (List Cel)) : WM (visM t a) := by
 unfold visM
 split
 ·rename_i h
  have hl : (lst a).length = 96 := by simp only [okA, Bool.and_eq_true, decide_eq_true_eq] at h; exact h.1
  have := (mskL_ok t (lst a) 96 (by omega) (by omega)).1
  rw [← hl, List.take_length] at this
  exact ⟨this.lo, this.w⟩
 ·exact ⟨by unfold W64; omega, by unfold W64; omega⟩
def srE (a : Option (List Cel)) (c : Option (List Vc)) (ms : List (Nat × Nat)) (q : Vc) (k t m : Int) : Int :=
 if chkE q k m ≠ 0 then chkE q k m else if okLs c ms = false then 230 else if okA a = false then 190 else if nrE c q m ≠ 0 then nrE c q m
 else scanE a (scnM ms (ixN q (lst c) m) (visM t a)).1 (scnM ms (ixN q (lst c) m) (visM t a)).2 q k
def srL (a : Option (List Cel)) (c : Option (List Vc)) (ms : List (Nat × Nat)) (q : Vc) (k t m : Int) : List Hit :=
 if chkE q k m ≠ 0 then [] else if okLs c ms = false then [] else if okA a = false then [] else if nrE c q m ≠ 0 then []
 else scanL a (scnM ms (ixN q (lst c) m) (visM t a)).1 (scnM ms (ixN q (lst c) m) (visM t a)).2 q k
theorem r9 (a : Option (List Cel)) (c : Option (List Vc)) (ms : Option (List (Nat × Nat))) (q : Vc) (k t m : Int) (ha : SmA a) (hl : (lst c).length ≤ 7) (hv : ∀ v ∈ lst c, Sm v) (hml : (lst ms).length ≤ 7) (hm : ∀ m ∈ lst ms, WM m) (hq : Sm q) : res T 9 [.agg [slV 5 celV a], .agg [slV 1 vecV c, slV 2 mV ms], .agg [slV 1 i32V q, .int .i64 k, .int .u64 t, .int .i64 m]] = some (.tup [slV 2 hitV (optH (srL a c (lst ms) q k t m)), .int .i64 (srE a c (lst ms) q k t m)]) := by
 refine run_res (run_pure (fn := g9) rfl rfl (by decide) ?_)
 simp only [g9, b9, zO, zN, zM, zL, zG, zP, zQ, zI, zA, zT, zF, zB, zC, zD, zE, zH, zJ, zK]
 have f1 := f20 q k t m hq
 have f2 := f21 c ms (by omega) hv (by omega) hm
 have f3 := f15 a ha
 by_cases he : chkE q k m = 0
 rotate_left
 ·have hd : (chkE q k m != 0) = true := by simpa using he
  have e1 : srE a c (lst ms) q k t m = chkE q k m := by simp [srE, he]
  have e2 : srL a c (lst ms) q k t m = [] := by simp [srL, he]
  rw [e1, e2]
  simp +contextual -implicitDefEqProofs (maxSteps := 2000000) only [↓wP, wS, seval, f1, hd]
  rfl
 rw [he] at f1
 cases hO : okLs c (lst ms)
 ·have e1 : srE a c (lst ms) q k t m = 230 := by simp [srE, he, hO]
  have e2 : srL a c (lst ms) q k t m = [] := by simp [srL, he, hO]
  rw [e1, e2]
  rw [hO] at f2
  simp +contextual -implicitDefEqProofs (maxSteps := 2000000) only [↓wP, wS, seval, f1, f2]
  rfl
 rw [hO, if_pos rfl] at f2
 cases hA : okA a
 ·have e1 : srE a c (lst ms) q k t m = 190 := by simp [srE, he, hO, hA]
  have e2 : srL a c (lst ms) q k t m = [] := by simp [srL, he, hO, hA]
  have e0 : arE a = 190 := by simp [arE, hA]
  rw [e0] at f3
  rw [e1, e2]
  simp +contextual -implicitDefEqProofs (maxSteps := 2000000) only [↓wP, wS, seval, f1, f2, f3]
  rfl
 have e0 : arE a = 0 := by simp [arE, hA]
 rw [e0] at f3
 by_cases hn : nrE c q m = 0
 rotate_left
 ·have hd : (nrE c q m != 0) = true := by simpa using hn
  have e1 : srE a c (lst ms) q k t m = nrE c q m := by simp [srE, he, hO, hA, hn]
  have e2 : srL a c (lst ms) q k t m = [] := by simp [srL, he, hO, hA, hn]
  rw [e1, e2]
  have f4 : ∀ fs σ n lk, callE T fs 13 [slV 1 vecV c, slV 1 i32V q, .int .i64 m] σ n lk = some (.tup [.nilS, .int .i64 (nrE c q m)], σ, n) := fun fs σ n lk => by
   obtain ⟨L, hL, h⟩ := f13 c q m hl hv hq fs σ n lk
   rw [if_neg hn] at hL
   rw [h, hL]; rfl
  simp +contextual -implicitDefEqProofs (maxSteps := 2000000) only [↓wP, wS, seval, f1, f2, f3, f4, hd]
  rfl
 have e1 : srE a c (lst ms) q k t m = scanE a (scnM (lst ms) (ixN q (lst c) m) (visM t a)).1 (scnM (lst ms) (ixN q (lst c) m) (visM t a)).2 q k := by simp [srE, he, hO, hA, hn]
 have e2 : srL a c (lst ms) q k t m = scanL a (scnM (lst ms) (ixN q (lst c) m) (visM t a)).1 (scnM (lst ms) (ixN q (lst c) m) (visM t a)).2 q k := by simp [srL, he, hO, hA, hn]
 rw [e1, e2]
 obtain ⟨L, hL⟩ : ∃ L, L = near q (lst c) m := ⟨_, rfl⟩
 have f4 : ∀ fs σ n lk, callE T fs 13 [slV 1 vecV c, slV 1 i32V q, .int .i64 m] σ n lk = some (.tup [iVal n L, .int .i64 0], iSto σ n L, iN n L) := fun fs σ n lk => by
  obtain ⟨L', hL', h⟩ := f13 c q m hl hv hq fs σ n lk
  rw [if_pos hn] at hL'
  rw [h, hL', hL, hn]
 obtain ⟨σ1, hσ1⟩ : ∃ σ1, σ1 = upd (upd (upd Sto.empty 0 (some (.row 1 [.agg [slV 5 celV a]]))) 1 (some (.row 2 [.agg [slV 1 vecV c, slV 2 mV ms]]))) 2 (some (.row 4 [.agg [slV 1 i32V q, .int .i64 k, .int .u64 t, .int .i64 m]])) := ⟨_, rfl⟩
 have s0 : σ1 0 = some (.row 1 [.agg [slV 5 celV a]]) := by rw [hσ1]; simp [upd]
 have s1 : σ1 1 = some (.row 2 [.agg [slV 1 vecV c, slV 2 mV ms]]) := by rw [hσ1]; simp [upd]
 have s2 : σ1 2 = some (.row 4 [.agg [slV 1 i32V q, .int .i64 k, .int .u64 t, .int .i64 m]]) := by rw [hσ1]; simp [upd]
 obtain ⟨σ2, hσ2⟩ : ∃ σ2, σ2 = iSto σ1 3 L := ⟨_, rfl⟩
 obtain ⟨n2, hn2⟩ : ∃ n2, n2 = iN 3 L := ⟨_, rfl⟩
 have hn3 : 3 ≤ n2 := by rw [hn2]; unfold iN; split <;> omega
 have t0 : σ2 0 = some (.row 1 [.agg [slV 5 celV a]]) := by rw [hσ2]; unfold iSto; split <;> simp [upd, s0, s1, s2]
 have t1 : σ2 1 = some (.row 2 [.agg [slV 1 vecV c, slV 2 mV ms]]) := by rw [hσ2]; unfold iSto; split <;> simp [upd, s0, s1, s2]
 have t2 : σ2 2 = some (.row 4 [.agg [slV 1 i32V q, .int .i64 k, .int .u64 t, .int .i64 m]]) := by rw [hσ2]; unfold iSto; split <;> simp [upd, s0, s1, s2]
 have t3 : L ≠ [] → σ2 3 = some (.row 1 (L.map iV)) := fun h => by rw [hσ2]; unfold iSto; rw [if_neg h, upd_self]
 simp +contextual -implicitDefEqProofs (maxSteps := 2000000) only [↓wP, wS, seval, f1, f2, f3, ← hσ1, f4, ← hσ2, ← hn2, t0, t1, t2, s0, s1, s2]
 have hms : (lst ms).length = (lst c).length := by unfold okLs at hO; simp only [Bool.and_eq_true, decide_eq_true_eq] at hO; exact hO.2.1
 have hc6 : (lst c).length ≤ 6 := by unfold okLs at hO; simp only [Bool.and_eq_true] at hO; exact cents_len hO.1
 obtain ⟨ix, hix⟩ : ∃ ix, ix = ixN q (lst c) m := ⟨_, rfl⟩
 have hixl : ∀ i ∈ lst (oL ix), i < (lst ms).length := by rw [lst_oL, hix, hms]; exact ixN_lt
 have hm0 : 0 ≤ m := by have := (nr0 hn).1; omega
 have hixn : (lst (oL ix)).length ≤ 100 := by rw [lst_oL, hix]; unfold ixN; rw [List.length_map, near_len _ _ _ hm0]; omega
 have r22' := r22 c ms (oL ix) (by omega) hv (by omega) hm hO hixn hixl
 obtain ⟨M, hM⟩ : ∃ M, M = andM ((selM (lst ms) ix).foldl orMM (0, 0)) allM := ⟨_, rfl⟩
 have hMw : WM M := by
  rw [hM]
  exact WM_and (WM_foldo _ _ ⟨by unfold W64; omega, by unfold W64; omega⟩ (sel_wm hm ix))
 rw [lst_oL, ← hM] at r22'
 have e22 : [V.agg [slV 1 vecV c, slV 2 mV ms], iVal 3 L].mapM (frz σ2 12) = some [.agg [slV 1 vecV c, slV 2 mV ms], slV 1 nV (oL ix)] := by
  have x1 : frz σ2 12 (.agg [slV 1 vecV c, slV 2 mV ms]) = some (.agg [slV 1 vecV c, slV 2 mV ms]) := (frz_tr σ2 12 _ (by simp [Tr, Tr_slV])).1
  have x2 : frz σ2 12 (iVal 3 L) = some (slV 1 nV (oL ix)) := by rw [hL, hix]; exact iVal_frz (k := 10) (by rw [← hL]; exact t3)
  simp only [List.mapM_cons, List.mapM_nil, x1, x2]
  rfl
 have f22 := callE_flat (by decide) e22 r22' (by rfl) true n2 0
 have e22' : thaw σ2 n2 (.tup [mV M, .int .i64 0]) = (.tup [mV M, .int .i64 0], σ2, n2) := by rfl
 rw [e22', mV_eq] at f22
 have f23' := f23 a t ha
 obtain ⟨U, hU⟩ : ∃ U, U = visM t a := ⟨_, rfl⟩
 rw [← hU, e0] at f23'
 have hsc : scnM (lst ms) (ixN q (lst c) m) (visM t a) = andM (andM allM M) U := by rw [hM, hU, hix]; rfl
 rw [hsc]
 obtain ⟨σ3, hσ3⟩ : ∃ σ3, σ3 = upd (upd σ2 n2 (some (.row 2 [.agg [.int .u64 0, .int .u64 0]]))) n2 (some (.row 2 [.agg [.int .u64 (M.1 : Int), .int .u64 (M.2 : Int)]])) := ⟨_, rfl⟩
 obtain ⟨σ4, hσ4⟩ : ∃ σ4, σ4 = upd (upd σ3 (n2 + 1) (some (.row 2 [.agg [.int .u64 0, .int .u64 0]]))) (n2 + 1) (some (.row 2 [.agg [.int .u64 (U.1 : Int), .int .u64 (U.2 : Int)]])) := ⟨_, rfl⟩
 have so3 : ∀ i, i < n2 → σ3 i = σ2 i := fun i hi => by rw [hσ3, upd_ne (by omega), upd_ne (by omega)]
 have so4 : ∀ i, i < n2 → σ4 i = σ2 i := fun i hi => by rw [hσ4, upd_ne (by omega), upd_ne (by omega), so3 i hi]
 have v0 : σ3 0 = some (.row 1 [.agg [slV 5 celV a]]) := by rw [so3 0 (by omega), t0]
 have v2 : σ3 2 = some (.row 4 [.agg [slV 1 i32V q, .int .i64 k, .int .u64 t, .int .i64 m]]) := by rw [so3 2 (by omega), t2]
 have w0 : σ4 0 = some (.row 1 [.agg [slV 5 celV a]]) := by rw [so4 0 (by omega), t0]
 have w2 : σ4 2 = some (.row 4 [.agg [slV 1 i32V q, .int .i64 k, .int .u64 t, .int .i64 m]]) := by rw [so4 2 (by omega), t2]
 have wM : σ4 n2 = some (.row 2 [.agg [.int .u64 (M.1 : Int), .int .u64 (M.2 : Int)]]) := by rw [hσ4, upd_ne (by omega), upd_ne (by omega), hσ3, upd_self]
 have wU : σ4 (n2 + 1) = some (.row 2 [.agg [.int .u64 (U.1 : Int), .int .u64 (U.2 : Int)]]) := by rw [hσ4, upd_self]
 have z0 : ((0 : Int) != 0) = false := rfl
 have hUw : WM U := by rw [hU]; exact visM_wm t a
 have hm25 : T.mode 25 ≠ .raw := by decide
 have r25' : res T 25 [.sl 2 [.agg [.int .u64 (M.1 : Int), .int .u64 (M.2 : Int)], .agg [.int .u64 (U.1 : Int), .int .u64 (U.2 : Int)]]] = some (.agg [.int .u64 ((andM (andM allM M) U).1 : Int), .int .u64 ((andM (andM allM M) U).2 : Int)]) :=
  r25 (some [M, U]) (by simp [lst]) (fun x hx => by
   simp only [lst_some, List.mem_cons, List.not_mem_nil, or_false] at hx
   rcases hx with rfl | rfl
   ·exact hMw
   ·exact hUw)
 have hRw : WM (andM (andM allM M) U) := WM_and (WM_and WM_all)
 have f24' := f24 a (andM (andM allM M) U).1 (andM (andM allM M) U).2 q k ha hRw.1 hRw.2 hq
 generalize andM (andM allM M) U = R at *
 have hB := big_le
 have x0 : hide σ4 (n2 + 2) (n2 + 2) [0] 0 = σ4 0 := hide_low σ4 (n2 + 2) (n2 + 2) _ (by omega) (Nat.le_refl _)
 have x1 : (n2 + 3 ≤ n2 + 2 + BIG) = True := by simp; omega
 have x1' : (n2 + 3 ≤ n2 + (2 + BIG)) = True := by simp; omega
 have bf : ∀ (D : List Nat) (s : Sto) (k lk : Nat), backE false D (.agg [.int .u64 (R.1 : Int), .int .u64 (R.2 : Int)]) s k lk = some (.agg [.int .u64 (R.1 : Int), .int .u64 (R.2 : Int)], s, k) := fun D s k lk => by
  rw [backE_flat rfl]; rfl
 have x5 : ∀ a b : Sto, merge a b (n2 + 2) (n2 + 2) = b (n2 + 2) := fun a b => merge_in a b _ (Nat.le_refl _) (by omega)
 have y1 : ∀ a b : Sto, merge a b (n2 + 2) 2 = a 2 := fun a b => merge_low a b _ (by omega)
 have y2 : ∀ s : Sto, s 2 = σ4 2 → hide s (n2 + 2) (n2 + (2 + BIG * 1)) [0] 2 = σ4 2 := fun s h => by rw [hide_low _ _ _ _ (by omega) (by omega), h]
 simp +contextual -implicitDefEqProofs (maxSteps := 2000000) only [↓wP, wS, seval, f22, f23', ← hσ3, ← hσ4, v0, v2, w0, w2, wM, wU, z0, x0, x1, x1', bf, x5, y1, y2, callE_eq hm25, frz_rf, rch_rf, r25', f24']
end Go.Q.SD
end

section
/- What is found among rows, of the nearest lists. -/
namespace Go.Q.SD
open Go.Q Go.Sort
def bV (b : Bool) : V := .bool b
theorem keyInt : KeyOk (.one .int) iV := by
 intro a b
 rfl
def selN (q : Vc) (c : List Vc) (m : Int) (l : List Rw) : List Rw := l.filter fun r => decide (((nb r.v c c.length : Nat) : Int) ∈ near q c m)
def pE (o : List Rw) (c : Option (List Vc)) (q : Vc) (k m : Int) : Int :=
 if chkE q k m ≠ 0 then chkE q k m else if trE c ≠ 0 then trE c else if o.any (fun r => !okV r.v) then 170 else if dm c ≠ (lst q).length ∨ o.any (fun r => ((lst r.v).length : Int) != ((lst q).length : Int)) = true then 151 else 0
def pL (o : List Rw) (c : Option (List Vc)) (q : Vc) (k m : Int) : List Hit := if pE o c q k m = 0 then fst' k.toNat ((selN q (lst c) m o).map (hitQ q)) else []
theorem selN_len (q : Vc) (c : List Vc) (m : Int) (l : List Rw) : (selN q c m l).length ≤ l.length := List.length_filter_le _ _
theorem selN_snoc (q : Vc) (c : List Vc) (m : Int) (l : List Rw) (r : Rw) : selN q c m (l ++ [r]) = selN q c m l ++ if ((nb r.v c c.length : Nat) : Int) ∈ near q c m then [r] else [] := by
 unfold selN
 rw [List.filter_append]
 congr 1
 simp only [List.filter_cons, List.filter_nil, decide_eq_true_eq]
theorem chk0 {q : Vc} {k m : Int} (h : chkE q k m = 0) : qE q k = 0 ∧ okV q = true ∧ 1 ≤ k ∧ k ≤ 16 ∧ 1 ≤ m := by
 unfold chkE at h
 by_cases h1 : k < 1
 ·rw [if_pos h1] at h; cases h
 ·by_cases h2 : 16 < k
  ·rw [if_neg h1, if_pos h2] at h; cases h
  ·rw [if_neg h1, if_neg h2] at h
   by_cases h3 : askE m = 0
   ·rw [if_neg (by omega)] at h
    have hm : 1 ≤ m := by unfold askE at h3; split at h3; cases h3; omega
    cases ho : okV q
    ·rw [ho] at h; cases h
    ·refine ⟨?_, rfl, by omega, by omega, hm⟩
     unfold qE
     rw [if_neg h1, if_neg h2, ho]; rfl
   ·rw [if_pos h3] at h; exact absurd h h3
def ask15 : AC := (.reg [⟨(some 12), none, .mov (.tmp 50)⟩])
def bd11 : AC := (.block 1 (.reg [⟨(some 51), none, .load false 1 (.tmp 11)⟩,
 ⟨(some 52), none, .mov (.tmp 12)⟩,
 ⟨none, none, .mupd (.one .int) (.tmp 51) (.tmp 52) (.con (.bool true))⟩]))
theorem w_ask15 (env : Nat → V) (σ : Sto) (n lk : Nat) (Q : Ex → St → Prop) : WC T ask15 env σ n lk Q = WC T (.reg [⟨(some 12), none, .mov (.tmp 50)⟩]) env σ n lk Q := rfl
theorem w_bd11 (env : Nat → V) (σ : Sto) (n lk : Nat) (Q : Ex → St → Prop) : WC T bd11 env σ n lk Q = WC T (.block 1 (.reg [⟨(some 51), none, .load false 1 (.tmp 11)⟩,
 ⟨(some 52), none, .mov (.tmp 12)⟩,
 ⟨none, none, .mupd (.one .int) (.tmp 51) (.tmp 52) (.con (.bool true))⟩])) env σ n lk Q := rfl
structure J15 (env : Nat → V) (X : Ob) (ids : List Int) (j : Nat) (σ : Sto) (n : Nat) : Prop where
 hn : 5 ≤ n
 s4 : σ 4 = some (.loop env [50] ask15 bd11 .ready none)
 s0 : σ 0 = some X
 s3 : σ 3 = some (.row 1 [.mp 2])
 s2 : ∃ Lm clk, MOk Lm clk ∧ σ 2 = some (.map (ens iV bV Lm) clk) ∧ ∀ x, (vw Lm x).getD false = decide (x ∈ ids.take j)
theorem J15.frame {env : Nat → V} {X : Ob} {ids : List Int} {j : Nat} {σ σ' : Sto} {n n' : Nat} (h : J15 env X ids j σ n) (hn : n ≤ n') (hs : ∀ i, i < n → σ' i = σ i) : J15 env X ids j σ' n' := by
 obtain ⟨h1, h2, h0, h3, Lm, clk, h4, h5, h6⟩ := h
 exact ⟨by omega, by rw [hs 4 (by omega), h2], by rw [hs 0 (by omega), h0], by rw [hs 3 (by omega), h3], Lm, clk, h4, by rw [hs 2 (by omega), h5], h6⟩
theorem hy11 (env : Nat → V) (X : Ob) (ids : List Int) (he : env 11 = .ptr 3 1 0 0) (j : Nat) (hj : j < ids.length) (x : Int) (hx : ids[j] = x) (σ : Sto) (n : Nat) (hJ : J15 env X ids j σ n) (hn : 4 < n) :
 yieldW (run T) 4 [.int .i64 x] σ n 0 (fun y σ' n' => n ≤ n' ∧ y = .bool true ∧ J15 env X ids (j + 1) σ' n') := by
 obtain ⟨h1, h2, h0, h3, Lm, clk, h4, h5, h6⟩ := hJ
 refine yieldW_gs h2 rfl (Nat.zero_le _) ?_
 have hS : upd σ 4 (some (.loop env [50] ask15 bd11 .busy none)) 2 = some (.map (ens iV bV Lm) clk) := by simp [upd, h5]
 have p := mupd_ens (ke := iV) (ve := bV) (lk := 0) keyInt h4 hS (Nat.zero_le _) x true n
 simp only [iV, bV] at p
 simp +contextual -implicitDefEqProofs (maxSteps := 2000000) only [↓wP, wS, seval, bind_cons, bind_nil, w_ask15, w_bd11, he, h2, h3, p]
 refine .inl ⟨by omega, by simp [upd], by simp [upd, h0], by simp [upd, h3], (mput Lm clk x true).1, (mput Lm clk x true).2, mput_ok h4 _ _, by simp [upd], fun y => ?_⟩
 rw [vw_mput, show ids.take (j + 1) = ids.take j ++ [ids[j]] from (List.take_append_getElem hj).symm, hx]
 by_cases e : y = x
 ·subst e; simp
 ·rw [if_neg e, h6 y]; simp [e]
theorem r11 (o : Option (List Rw)) (c : Option (List Vc)) (q : Vc) (k ts m : Int) (hl : (lst o).length ≤ 300) (hv : ∀ r ∈ lst o, Sm r.v) (hcl : (lst c).length ≤ 7) (hcv : ∀ v ∈ lst c, Sm v) (hq : Sm q) : res T 11 [slV 2 rwV o, slV 1 vecV c, .agg [slV 1 i32V q, .int .i64 k, .int .u64 ts, .int .i64 m]] = some (.tup [ownH (pL (lst o) c q k m), .int .i64 (pE (lst o) c q k m)]) := by
 refine run_res (run_own (fn := g11) rfl rfl (by decide) ?_)
 simp only [g11, b11, zO, zN, zM, zL, zG, zP, zQ, zI, zA, zT, zF, zB, zC, zD, zE, zH, zJ, zK]
 have f1 := f20 q k ts m hq
 have f2 := f27 c hcl hcv
 have f3 := callE_tr (by decide) (r30g o 29 [] (fun r => !okV r.v) (by omega) rfl (fun x hx fs σ n lk => f29 x.id x.v (hv x hx) fs σ n lk)) (by simp [Tr, Tr_slV]) rfl
 by_cases hc : chkE q k m = 0
 ·obtain ⟨hqe, oq, hk1, hk2, hm1⟩ := chk0 hc
  rw [hc] at f1
  by_cases ht : trE c = 0
  ·rw [ht] at f2
   have hne : lst c ≠ [] := by intro h; unfold trE at ht; rw [if_pos h] at ht; cases ht
   have hce : cents c = true := by
    unfold trE at ht; rw [if_neg hne] at ht
    cases h : cents c
    ·rw [h] at ht; cases ht
    ·rfl
   cases hr : (lst o).any (fun r => !okV r.v)
   ·rw [hr] at f3
    obtain ⟨v0, hv0, hd⟩ := dm_get hne
    have f4 := fun (σ : Sto) (h0 : σ 1 = some (.row 1 [.int .i64 ((lst q).length : Int)])) (n lk : Nat) => callE_flat (σ := σ) (fs := true) (n := n) (lk := lk) (by decide) (show [slV 2 rwV o, V.fn 31 [.ptr 1 1 0 0]].mapM (frz σ 12) = some [slV 2 rwV o, .fn 31 [.box [.int .i64 ((lst q).length : Int)]]] by
     have hx : frz σ 12 (.fn 31 [.ptr 1 1 0 0]) = some (.fn 31 [.box [.int .i64 ((lst q).length : Int)]]) := by
      simp only [frz, rowAt, h0, List.mapM_cons, List.mapM_nil, if_true, List.getElem?_cons_zero, Option.bind_some, V.cells, List.drop_zero]
      rfl
     simp only [List.mapM_cons, List.mapM_nil, frz_slV, hx]; rfl) (r30g o 31 [.box [.int .i64 ((lst q).length : Int)]] (fun r => ((lst r.v).length : Int) != ((lst q).length : Int)) (by omega) (by simp [Tr]) (fun x hx fs σ n lk => f31 x.id x.v _ fs σ n lk)) rfl
    by_cases hx : dm c = (lst q).length
    ·have hx' : (((lst v0).length : Int) != ((lst q).length : Int)) = false := by rw [← hd, hx]; simp
     cases hsd : (lst o).any (fun r => ((lst r.v).length : Int) != ((lst q).length : Int))
     ·rw [hsd] at f4
      have e1 : pE (lst o) c q k m = 0 := by unfold pE; simp [hc, ht, hr, hx, hsd]
      rw [e1]
      obtain ⟨S1, hS1⟩ : ∃ S1, S1 = upd (upd (upd Sto.empty 0 (some (Ob.row 4 [V.agg [slV 1 i32V q, V.int IntKind.i64 k, V.int IntKind.u64 ts, V.int IntKind.i64 m]]))) 1 (some (Ob.row 1 [V.int IntKind.i64 0]))) 1 (some (Ob.row 1 [V.int IntKind.i64 ↑(lst q).length])) := ⟨_, rfl⟩
      have t1 : S1 1 = some (.row 1 [.int .i64 ((lst q).length : Int)]) := by rw [hS1, upd_self]
      have t0 : S1 0 = some (Ob.row 4 [V.agg [slV 1 i32V q, V.int IntKind.i64 k, V.int IntKind.u64 ts, V.int IntKind.i64 m]]) := by rw [hS1]; simp [upd]
      have f4' := f4 S1 t1
      simp only [thaw] at f4'
      have r32' := r32 q k ts m c hce hcv hq oq hx hne
      have f32 := callE_tr (by decide) r32' (by simp [srcV, Tr, Tr_slV]) (by simp [srcV, Nw])
      simp only [srcV] at f32
      simp +contextual -implicitDefEqProofs (maxSteps := 2000000) only [↓wP, wS, seval, f1, f2, f3, hv0, vecV_eq, hx', ← hS1, t0, t1, f4', f32]
      refine WC_env fun env hE => ?_
      have e49 : env 49 = .fn 68 [.box [.sl 2 (hs (srt (ctH q (lst c) 0)))], .box (srcV q k ts m c)] := by rw [hE]; rfl
      have e0 : env 0 = slV 2 rwV o := by rw [hE]; rfl
      have e1' : env 1 = slV 1 vecV c := by rw [hE]; rfl
      have e5 : env 5 = .ptr 0 4 0 0 := by rw [hE]; rfl
      have e11 : env 11 = .ptr 3 1 0 0 := by rw [hE]; rfl
      clear hE
      have h2 := nr_two hce oq hx
      obtain ⟨ids, hids⟩ : ∃ ids, ids = near q (lst c) m := ⟨_, rfl⟩
      have hnl : ids.length = min m.toNat (lst c).length := by rw [hids]; exact near_len _ _ _ (by omega)
      have hlen : (srt (ctH q (lst c) 0)).length = (lst c).length := by rw [srt_len, ctH_len]
      have hce6 := cents_len hce
      obtain ⟨X, hX⟩ : ∃ X, X = Ob.row 4 [V.agg [slV 1 i32V q, V.int IntKind.i64 k, V.int IntKind.u64 ts, V.int IntKind.i64 m]] := ⟨_, rfl⟩
      rw [← hX] at t0
      refine WC_rangeF (f := 68) (caps := _) e49 (Nat.zero_le _) ?_
      refine run_mono _ _ _ (fun o' ho => ?_) (iter48 q k ts m c (srt (ctH q (lst c) 0)) 4 (fun j σ n => J15 env X ids j σ n) _ 5 (by omega) (by omega) (fun h hh => by have := ct_id hh; omega) (by omega) ?_ ?_ ?_)
      ·cases o' <;> try exact ho.elim
       rename_i vv σ' n'
       obtain ⟨h1, h4, h0, h3, Lm, clk, m1, m2, m3⟩ := ho
       refine ⟨_, _, _, _, _, _, h4, by decide, ?_⟩
       rw [hlen, ← hnl, List.take_length] at m3
       obtain ⟨S2, hS2⟩ : ∃ S2, S2 = upd σ' 4 none := ⟨_, rfl⟩
       have u0 : S2 0 = some X := by rw [hS2]; simp [upd, h0]
       have u2 : S2 2 = some (.map (ens iV bV Lm) clk) := by rw [hS2]; simp [upd, m2]
       have u3 : S2 3 = some (.row 1 [.mp 2]) := by rw [hS2]; simp [upd, h3]
       simp +contextual -implicitDefEqProofs (maxSteps := 2000000) only [↓wP, wS, seval, Option.getD_none, ← hS2, e0]
       refine WC_for (lst o).length 0 (fun (j : Nat) env σ n => env 1 = slV 1 vecV c ∧ env 5 = .ptr 0 4 0 0 ∧ env 11 = .ptr 3 1 0 0 ∧ env 53 = slV 2 rwV o ∧ 5 ≤ n ∧ σ 0 = some X ∧ σ 2 = some (.map (ens iV bV Lm) clk) ∧ σ 3 = some (.row 1 [.mp 2]) ∧
        ∃ v, env 13 = v ∧ Pl σ 5 n 2 v (oL ((selN q (lst c) m ((lst o).take j)).map rwV))) (by omega) (by decide) (by decide) (fun _ _ => rfl) (fun _ _ _ => rfl) ?_ ?_ _ _ _ rfl rfl ?_
       ·intro j env σ n hj g1 g2 ⟨k1, k2, k3, k4, k5, k6, k7, k8, v, k9, k10⟩
        simp only [vl_tmp] at g2
        have hxo : (lst o)[j]? = some (lst o)[j] := List.getElem?_eq_getElem hj
        have hmo := List.getElem_mem hj
        have htk : (lst o).take (j + 1) = (lst o).take j ++ [(lst o)[j]] := (List.take_append_getElem hj).symm
        have hsn := selN_snoc q (lst c) m ((lst o).take j) (lst o)[j]
        rw [← htk] at hsn
        have hvx := hv _ hmo
        have hok : okV (lst o)[j].v = true := by
         have := List.any_eq_false.1 hr _ hmo
         simpa using this
        have hdx : (lst (lst o)[j].v).length = (lst q).length := by
         have := List.any_eq_false.1 hsd _ hmo
         simp at this; omega
        generalize (lst o)[j] = x at *
        have f18' := f18 c x.v hcl hne (nr_two hce hok (by omega)) hcv hvx
        obtain ⟨p, hp⟩ : ∃ p, p = ((nb x.v (lst c) (lst c).length : Nat) : Int) := ⟨_, rfl⟩
        rw [← hp] at f18' hsn
        have hc' := k10.cells
        have ho' := k10.one
        have hsp := spl k10
        have hmg : mgetE false (.one .int) (.bool false) (some (ens iV bV Lm)) (.int .i64 p) = some (.bool (decide (p ∈ ids))) := by
         have := mget_ens (ve := bV) keyInt false (.bool false) p Lm
         simp only [iV] at this
         rw [this, ← m3 p]
         cases vw Lm p <;> rfl
        obtain ⟨σ1, hσ1⟩ : ∃ σ1, σ1 = upd (upd σ n (some (.row 2 [.agg [.int .u64 0, .nilS]]))) n (some (.row 2 [.agg [.int .u64 x.id, slV 1 i32V x.v]])) := ⟨_, rfl⟩
        have so : ∀ i, i < n → σ1 i = σ i := fun i hi => by rw [hσ1, upd_ne (by omega), upd_ne (by omega)]
        have sn : σ1 n = some (.row 2 [.agg [.int .u64 x.id, slV 1 i32V x.v]]) := by rw [hσ1, upd_self]
        have s2 := (so 2 (by omega)).trans k7
        have s3 := (so 3 (by omega)).trans k8
        rw [← hids] at hsn
        by_cases hmem : p ∈ ids
        ·rw [if_pos hmem] at hsn
         have hdm : decide (p ∈ ids) = true := decide_eq_true hmem
         rw [hdm] at hmg
         have hll : ((selN q (lst c) m ((lst o).take j)).map rwV).length ≤ j := by
          have := selN_len q (lst c) m ((lst o).take j)
          rw [List.length_take] at this
          rw [List.length_map]; omega
         simp +contextual -implicitDefEqProofs (maxSteps := 2000000) only [↓wP, wS, seval, g1, g2, k1, k2, k3, k4, k9, hxo, rwV_eq, ← hσ1, sn, s2, s3, f18', hmg]
         refine stepW_app1 (m := 5) (n0 := n) (σ0 := σ) k10 (fun i a1 a2 => ?_) (by omega) (by omega) (Nat.zero_le _) ?_ (fun _ σ2 a1 a2 => ?_)
         ·rw [upd_ne (by omega), so i a2]
         ·rw [lst_oL]; unfold LIM; omega
         ·rw [lst_oL] at a1 ⊢
          have hv5 : ∀ i, i < 5 → ∀ off len s, v ≠ .ref i off len s := by
           intro i hi off len s e
           subst e
           cases ho' : oL ((selN q (lst c) m ((lst o).take j)).map rwV) with
           | none => rw [ho'] at k10; simp only [Pl] at k10; cases k10
           | some xs => rw [ho'] at k10; obtain ⟨j, e, -, e2, -⟩ := k10; simp only [V.ref.injEq] at e; omega
          have t : ∀ i, i < 5 → σ2 i = σ i := fun i hi => by
           rw [a2 i (by omega) (hv5 i hi), upd_ne (by omega), so i (by omega)]
          simp +contextual -implicitDefEqProofs (maxSteps := 2000000) only [↓wP, wS, seval, g1, g2, k1, k2, k3, k4, hc', hsp]
          refine ⟨by omega, by rw [t 0 (by omega)]; exact k6, by rw [t 2 (by omega)]; exact k7, by rw [t 3 (by omega)]; exact k8, _, rfl, ?_⟩
          rw [hsn, List.map_append]
          have e2 : oL ((selN q (lst c) m ((lst o).take j)).map rwV ++ [x].map rwV) = some ((selN q (lst c) m ((lst o).take j)).map rwV ++ [.agg [.int .u64 x.id, slV 1 i32V x.v]]) := by
           cases selN q (lst c) m ((lst o).take j) <;> rfl
          rw [e2]
          exact a1
        ·rw [if_neg hmem, List.append_nil] at hsn
         have hdm : decide (p ∈ ids) = false := decide_eq_false hmem
         rw [hdm] at hmg
         simp +contextual -implicitDefEqProofs (maxSteps := 2000000) only [↓wP, wS, seval, g1, g2, k1, k2, k3, k4, k9, hxo, rwV_eq, ← hσ1, sn, s2, s3, f18', hmg]
         rw [hsn]
         exact ⟨by omega, by rw [so 0 (by omega)]; exact k6, _, rfl, k10.loc (fun i a b => so i b) (by omega)⟩
       ·intro env σ n ⟨k1, k2, k3, k4, k5, k6, k7, k8, v, k9, k10⟩ g1 g2
        rw [List.take_length] at k10
        obtain ⟨SL, hSL⟩ : ∃ SL, SL = selN q (lst c) m (lst o) := ⟨_, rfl⟩
        rw [← hSL] at k10
        have hSl : SL.length ≤ 300 := by rw [hSL]; have := selN_len q (lst c) m (lst o); omega
        have hSm : ∀ r ∈ SL, r ∈ lst o := fun r hr => by rw [hSL] at hr; exact (List.mem_filter.1 hr).1
        have r33' := r33 (oL SL) q k (by rw [lst_oL]; exact hSl) (fun r hr => by rw [lst_oL] at hr; exact hv r (hSm r hr)) hq
        have hall : SL.all okR = true := by
         rw [List.all_eq_true]
         intro r hr'
         have := List.any_eq_false.1 hr _ (hSm r hr')
         simpa [okR] using this
        have hsame : SL.all (sameD q) = true := by
         rw [List.all_eq_true]
         intro r hr'
         have := List.any_eq_false.1 hsd _ (hSm r hr')
         simp at this
         simp [sameD]; omega
        have eE : rowsE q k SL = 0 := by unfold rowsE itE; simp [hqe, hall, hsame]
        have eL : rowsL q k SL = pL (lst o) c q k m := by
         unfold rowsL itL pL
         simp [hqe, hall, hsame, e1, ← hSL]
        rw [lst_oL, eE, eL] at r33'
        have hf := k10.frz (fun x hx => by rw [lst_oL] at hx; obtain ⟨y, -, rfl⟩ := List.mem_map.1 hx; simp [rwV_eq, Tr, Tr_slV]) (fun x hx c hc => by
         rw [lst_oL] at hx; obtain ⟨y, -, rfl⟩ := List.mem_map.1 hx
         simp only [rwV_eq, V.cells, List.mem_cons, List.not_mem_nil, or_false] at hc
         rcases hc with rfl | rfl
         ·rfl
         ·exact Tr_slV _ _ _ _)
        rw [slV_oL] at hf
        have e : [v, V.agg [slV 1 i32V q, .int .i64 k]].mapM (frz σ 12) = some [slV 2 rwV (oL SL), .agg [slV 1 i32V q, .int .i64 k]] := by
         have x1 : frz σ 12 (.agg [slV 1 i32V q, .int .i64 k]) = some (.agg [slV 1 i32V q, .int .i64 k]) := (frz_tr σ 12 _ (by simp [Tr, Tr_slV])).1
         simp only [List.mapM_cons, List.mapM_nil, hf, x1]; rfl
        have f33 := callE_flat (by decide) e r33' (flat_tup2 (flat_ownH _) rfl) true n 0
        rw [thaw_hTup] at f33
        have hg := hVal_giv11 σ n (pL (lst o) c q k m)
        rw [hX] at k6
        simp +contextual -implicitDefEqProofs (maxSteps := 2000000) only [↓wP, wS, seval, k2, k6, k9, f33]
        exact giv_tup2 hg rfl rfl
       ·simp +contextual -implicitDefEqProofs (maxSteps := 2000000) only [↓wP, wS, seval, e1', e5, e11]
        exact ⟨h1, u0, u2, u3, _, rfl, by simp [selN, oL, Pl]⟩
      ·exact fun j σ n σ' n' h a b => h.frame a b
      ·intro j hj σ n hjm hJ hn
       have hj2 : j < ids.length := by omega
       exact hy11 env X ids e11 j hj2 _ (by simp [hids, near]) σ n hJ hn
      ·exact ⟨by omega, by rfl, by simp [upd, t0], by simp [upd], [], 0, MOk.nil, by simp [upd, ens], by simp [vw]⟩
     ·rw [hsd] at f4
      have e1 : pE (lst o) c q k m = 151 := by unfold pE; simp [hc, ht, hr, hx, hsd]
      have e2 : pL (lst o) c q k m = [] := by unfold pL; rw [e1]; rfl
      rw [e1, e2]
      obtain ⟨S1, hS1⟩ : ∃ S1, S1 = upd (upd (upd Sto.empty 0 (some (Ob.row 4 [V.agg [slV 1 i32V q, V.int IntKind.i64 k, V.int IntKind.u64 ts, V.int IntKind.i64 m]]))) 1 (some (Ob.row 1 [V.int IntKind.i64 0]))) 1 (some (Ob.row 1 [V.int IntKind.i64 ↑(lst q).length])) := ⟨_, rfl⟩
      have t1 : S1 1 = some (.row 1 [.int .i64 ((lst q).length : Int)]) := by rw [hS1, upd_self]
      have t0 : S1 0 = some (Ob.row 4 [V.agg [slV 1 i32V q, V.int IntKind.i64 k, V.int IntKind.u64 ts, V.int IntKind.i64 m]]) := by rw [hS1]; simp [upd]
      have f4' := f4 S1 t1
      simp only [thaw] at f4'
      simp +contextual -implicitDefEqProofs (maxSteps := 2000000) only [↓wP, wS, seval, f1, f2, f3, hv0, vecV_eq, hx', ← hS1, t0, t1, f4']
      exact giv_tup2 (r := .nilS) ⟨rfl, by simp [gids]⟩ rfl rfl
    ·have hx' : (((lst v0).length : Int) != ((lst q).length : Int)) = true := by rw [← hd]; simp; omega
     have e1 : pE (lst o) c q k m = 151 := by unfold pE; simp [hc, ht, hr, hx]
     have e2 : pL (lst o) c q k m = [] := by unfold pL; rw [e1]; rfl
     rw [e1, e2]
     simp +contextual -implicitDefEqProofs (maxSteps := 2000000) only [↓wP, wS, seval, f1, f2, f3, hv0, vecV_eq, hx']
     exact giv_tup2 (r := .nilS) ⟨rfl, by simp [gids]⟩ rfl rfl
   ·rw [hr] at f3
    have e1 : pE (lst o) c q k m = 170 := by unfold pE; simp [hc, ht, hr]
    have e2 : pL (lst o) c q k m = [] := by unfold pL; rw [e1]; rfl
    rw [e1, e2]
    simp +contextual -implicitDefEqProofs (maxSteps := 2000000) only [↓wP, wS, seval, f1, f2, f3]
    exact giv_tup2 (r := .nilS) ⟨rfl, by simp [gids]⟩ rfl rfl
  ·have ht' : (trE c != 0) = true := by simpa using ht
   have e1 : pE (lst o) c q k m = trE c := by unfold pE; simp [hc, ht]
   have e2 : pL (lst o) c q k m = [] := by unfold pL; rw [e1, if_neg ht]
   rw [e1, e2]
   simp +contextual -implicitDefEqProofs (maxSteps := 2000000) only [↓wP, wS, seval, f1, f2, ht']
   exact giv_tup2 (r := .nilS) ⟨rfl, by simp [gids]⟩ rfl rfl
 ·have hc' : (chkE q k m != 0) = true := by simpa using hc
  have e1 : pE (lst o) c q k m = chkE q k m := by unfold pE; simp [hc]
  have e2 : pL (lst o) c q k m = [] := by unfold pL; rw [e1, if_neg hc]
  rw [e1, e2]
  simp +contextual -implicitDefEqProofs (maxSteps := 2000000) only [↓wP, wS, seval, f1, hc']
  exact giv_tup2 (r := .nilS) ⟨rfl, by simp [gids]⟩ rfl rfl
end Go.Q.SD
end

section
/- A mask's slots, told one by one. -/
namespace Go.Q.SD
open Go.Q Go.Sort
open Nat renaming reduceEqDiff → n1w, reduceAdd → n2w, reduceSub → n3w, reduceLeDiff → n4w, reduceLT → n5w, reduceMul → n6w
open Int renaming reduceBNe → i1w, reduceBEq → i2w, reduceLT → i3w, reduceLE → i4w, reduceGT → i5w
def bl (w : Nat) : List Nat := (List.range 64).filter fun j => w.testBit j
theorem bl_step {w : Nat} (h0 : w ≠ 0) (hw : w < 18446744073709551616) : Lib.ctz 64 w < 64 ∧ bl w = Lib.ctz 64 w :: bl (w &&& (w - 1)) ∧ w &&& (w - 1) < w := by
 obtain ⟨m, h1, h2⟩ := Lib.ctzFrom_spec 64 w (by omega) (by simpa using hw)
 have hk : Lib.ctz 64 w = Lib.ctzFrom 64 w := by unfold Lib.ctz; rw [if_neg h0]
 rw [hk]
 generalize Lib.ctzFrom 64 w = k at *
 have hpk : 0 < 2 ^ k := Nat.two_pow_pos k
 have e1 : w = 2 ^ (k + 1) * m + 2 ^ k := by rw [h1, Nat.pow_succ, Nat.mul_add, Nat.mul_one, Nat.mul_assoc]
 have e2 : w - 1 = 2 ^ (k + 1) * m + (2 ^ k - 1) := by omega
 have b1 : 2 ^ k < 2 ^ (k + 1) := by rw [Nat.pow_succ]; omega
 have t1 : ∀ j, w.testBit j = if j < k + 1 then decide (k = j) else m.testBit (j - (k + 1)) := fun j => by
  rw [e1, Nat.testBit_two_pow_mul_add _ b1, Nat.testBit_two_pow]
 have t2 : ∀ j, (w - 1).testBit j = if j < k + 1 then decide (j < k) else m.testBit (j - (k + 1)) := fun j => by
  rw [e2, Nat.testBit_two_pow_mul_add _ (by omega), Nat.testBit_two_pow_sub_one]
 have t3 : ∀ j, (w &&& (w - 1)).testBit j = (decide (k < j) && w.testBit j) := fun j => by
  rw [Nat.testBit_and, t1, t2]
  by_cases hj : j < k + 1
  ·rw [if_pos hj, if_pos hj]
   by_cases e : k = j
   ·subst e; simp
   ·have : ¬ k < j := by omega
    simp [e, this]
  ·rw [if_neg hj, if_neg hj]
   have : k < j := by omega
   simp [this]
 have t4 : ∀ j, w.testBit j = (decide (j = k) || (w &&& (w - 1)).testBit j) := fun j => by
  rw [t3, t1]
  by_cases hj : j < k + 1
  ·rw [if_pos hj]
   by_cases e : k = j
   ·simp [e]
   ·have : ¬ k < j := by omega
    have e' : ¬ j = k := fun h => e h.symm
    simp [e, e', this]
  ·rw [if_neg hj]
   have : k < j := by omega
   have e' : ¬ j = k := by omega
   simp [this, e']
 have key : ∀ n, (List.range n).filter (fun j => w.testBit j) = (if k < n then [k] else []) ++ (List.range n).filter (fun j => (w &&& (w - 1)).testBit j) := by
  intro n
  induction n with
  | zero => simp
  | succ n ih =>
    rw [List.range_succ, List.filter_append, List.filter_append, ih]
    have hlow : n ≤ k → (List.range n).filter (fun j => (w &&& (w - 1)).testBit j) = [] := fun hn => List.filter_eq_nil_iff.2 fun j hj => by
     have := List.mem_range.1 hj
     rw [t3]
     have : ¬ k < j := by omega
     simp [this]
    rcases Nat.lt_trichotomy k n with h | h | h
    ·have e : ¬ n = k := by omega
     have hn : w.testBit n = (w &&& (w - 1)).testBit n := by rw [t4 n]; simp [e]
     rw [if_pos h, if_pos (by omega)]
     simp only [List.filter_cons, List.filter_nil, hn, List.append_assoc]
    ·subst h
     rw [hlow (Nat.le_refl _), if_neg (by omega), if_pos (by omega)]
     have hn : w.testBit k = true := by rw [t4 k]; simp
     have hn2 : (w &&& (w - 1)).testBit k = false := by rw [t3]; simp
     simp only [List.filter_cons, List.filter_nil, hn, hn2, if_true, Bool.false_eq_true, if_false, List.nil_append, List.append_nil]
    ·have e : ¬ n = k := by omega
     have hn : w.testBit n = (w &&& (w - 1)).testBit n := by rw [t4 n]; simp [e]
     rw [if_neg (by omega), if_neg (by omega)]
     simp only [List.filter_cons, List.filter_nil, hn, List.nil_append]
 refine ⟨h2, ?_, ?_⟩
 ·unfold bl
  rw [key 64, if_pos h2]; rfl
 ·have := Nat.and_le_right (n := w) (m := w - 1)
  omega
theorem bl_zero : bl 0 = [] := by unfold bl; simp
theorem bl_len (w : Nat) : (bl w).length ≤ 64 := by
 have := List.length_filter_le (fun j => w.testBit j) (List.range 64)
 rw [List.length_range] at this
 exact this
def slN (m : Nat × Nat) : List Nat := bl m.1 ++ (bl m.2).map (64 + ·)
def wd (m : Nat × Nat) (i : Nat) : Nat := if i = 0 then m.1 else m.2
def prS (m : Nat × Nat) (i : Nat) : List Nat := if i = 0 then [] else if i = 1 then bl m.1 else slN m
theorem prS_step (m : Nat × Nat) (i : Nat) (hi : i < 2) : prS m (i + 1) = prS m i ++ (bl (wd m i)).map (64 * i + ·) := by
 have : i = 0 ∨ i = 1 := by omega
 rcases this with rfl | rfl
 ·simp [prS, wd]
 ·simp [prS, wd, slN]
theorem slN_len (m : Nat × Nat) : (slN m).length ≤ 128 := by
 have h1 := bl_len m.1
 have h2 := bl_len m.2
 unfold slN
 rw [List.length_append, List.length_map]; omega
theorem tz_at (x : Int) (h : 0 ≤ x ∧ x < 18446744073709551616) (σ : Sto) (n lk : Nat) : tzP [.int .u64 x] σ n lk = some (.int .i64 (Lib.ctz 64 x.toNat : Int), σ, n) := by
 simp only [tzP]
 rw [if_pos h]
theorem prim90 : T.prim 90 = some tzP := by simp only [T, primOf]
theorem primE_of {T : Tab} {f : Nat} {p : Prim} (h : T.prim f = some p) (args : List V) (σ : Sto) (n lk : Nat) : primE T f args σ n lk = p args σ n lk := by
 unfold primE
 rw [h]
theorem w_rng {w : Nat} (hw : w < 18446744073709551616) : (0 : Int) ≤ (w : Int) ∧ (w : Int) < 18446744073709551616 := by
 have c : ((18446744073709551616 : Nat) : Int) = 18446744073709551616 := rfl
 have h := Int.ofNat_lt.2 hw
 rw [c] at h
 exact ⟨Int.natCast_nonneg w, h⟩
theorem p90 (w : Nat) (hw : w < 18446744073709551616) (σ : Sto) (n lk : Nat) : primE T 90 [.int .u64 (w : Int)] σ n lk = some (.int .i64 ((Lib.ctz 64 w : Nat) : Int), σ, n) :=
 (primE_of prim90 _ σ n lk).trans (by rw [tz_at (w : Int) (w_rng hw), Int.toNat_natCast])
theorem and_full {w k : Nat} (h : w < 2 ^ k) : w &&& (2 ^ k - 1) = w := Nat.and_two_pow_sub_one_of_lt_two_pow h
theorem raw89 (m : Nat × Nat) (hm : Mk m) (J : List Nat → Sto → Nat → Prop) (lid : Nat)
 (hy : ∀ (pre : List Nat) (σ : Sto) (n s : Nat), s < 128 → pre.length < 128 → J pre σ n → yieldW (run T) lid [.int .i64 (s : Int)] σ n 0 (fun y σ' n' => y = .bool true ∧ J (pre ++ [s]) σ' n'))
 (σ0 : Sto) (n0 : Nat) (h0 : J [] σ0 n0) : run T (.raw 89 [.yld lid, .box [.int .u64 (m.1 : Int), .int .u64 (m.2 : Int)]] σ0 n0 0) (memQ fun _ σ' n' => J (slN m) σ' n') := by
 refine run_rawE (fn := g89) rfl rfl ?_
 simp only [g89, b89, zO, zN, zM, zL, zG, zP, zQ, zI, zA, zT, zF, zB, zC, zD, zE, zH, zJ, zK]
 have f6 := f60 m.1 m.2 18446744073709551615 4294967295 hm.lo hm.w (by unfold W64; omega) (by unfold W64; omega)
 have a1 : m.1 &&& 18446744073709551615 = m.1 := and_full (k := 64) (by simpa [W64] using hm.lo)
 have a2 : m.2 &&& 4294967295 = m.2 := and_full (k := 32) (by simpa using hm.hi)
 rw [a1, a2] at f6
 have c1 : ((18446744073709551615 : Nat) : Int) = 18446744073709551615 := rfl
 have c2 : ((4294967295 : Nat) : Int) = 4294967295 := rfl
 rw [c1, c2] at f6
 have hwd : ∀ i, wd m i < 18446744073709551616 := fun i => by unfold wd; split; exact hm.lo; exact hm.w
 simp +contextual -implicitDefEqProofs (maxSteps := 2000000) only [↓wP, wQ, wQ1, wQ2, wQ3, wR, boxE, partsOf, ↓reduceIte, n1w, n2w, n3w, n4w, n5w, n6w, reduceCtorEq, i1w, i2w, i3w, i4w, i5w, f59, f6]
 refine WC_for 2 0 (fun (i : Nat) env σ n => env 0 = .yld lid ∧ env 7 = .agg [.int .u64 (m.1 : Int), .int .u64 (m.2 : Int)] ∧ J (prS m i) σ n) (by omega) (by decide) (by decide) (fun _ _ => rfl) (fun _ _ _ => rfl) ?_ ?_ _ _ _ rfl rfl ?_
 ·intro i env σ n hi e1 e2 ⟨g1, g2, g3⟩
  obtain ⟨tl, hdr⟩ : ∃ tl, List.drop i ([.int .u64 (m.1 : Int), .int .u64 (m.2 : Int)] : List V) = .int .u64 (wd m i : Int) :: tl := by
   have : i = 0 ∨ i = 1 := by omega
   rcases this with rfl | rfl <;> exact ⟨_, rfl⟩
  have w64 : IntKind.i64.wrap (64 * (i : Int)) = ((64 * i : Nat) : Int) := by rw [wrap_i64] <;> omega
  have hpl : (prS m i).length ≤ 64 := by
   have : i = 0 ∨ i = 1 := by omega
   rcases this with rfl | rfl
   ·simp [prS]
   ·simpa [prS] using bl_len m.1
  simp +contextual -implicitDefEqProofs (maxSteps := 2000000) only [↓wP, wQ, wQ1, wQ2, wQ3, wR, boxE, partsOf, ↓reduceIte, n1w, n2w, n3w, n4w, n5w, n6w, reduceCtorEq, i1w, i2w, i3w, i4w, i5w, e1, e2, g1, g2, hi, Nat.mul_one, hdr]
  refine WC_loopI 0 (fun (s : Nat × List Nat) env σ' n' => env 0 = .yld lid ∧ env 3 = .int .i64 (i : Int) ∧ env 4 = .int .u64 (s.1 : Int) ∧ env 7 = .agg [.int .u64 (m.1 : Int), .int .u64 (m.2 : Int)] ∧ env 8 = .int .i64 (i : Int) ∧
   s.1 < 18446744073709551616 ∧ s.2 ++ (bl s.1).map (64 * i + ·) = prS m (i + 1) ∧ J s.2 σ' n') (fun s => s.1) ?_ (wd m i, prS m i) _ _ _ ?_
  ·clear e1 e2 g1 g2 g3
   intro ⟨w, pre⟩ env σ n ⟨c1, c2, c3, c4, c5, c6, c7, c8⟩
   simp only at c3 c6 c7 c8
   by_cases h0 : w = 0
   ·subst h0
    rw [bl_zero, List.map_nil, List.append_nil] at c7
    subst c7
    simp +contextual -implicitDefEqProofs (maxSteps := 2000000) only [↓wP, wQ, wQ1, wQ2, wQ3, wR, boxE, partsOf, ↓reduceIte, n1w, n2w, n3w, n4w, n5w, n6w, reduceCtorEq, i1w, i2w, i3w, i4w, i5w, c1, c2, c3, c4, c5, Int.natCast_zero]
    exact ⟨rfl, c8⟩
   ·have hz : ((w : Int) != 0) = true := by simp [h0]
    obtain ⟨k1, k2, k3⟩ := bl_step h0 c6
    have w1 : IntKind.i64.wrap (((64 * i : Nat) : Int) + ((Lib.ctz 64 w : Nat) : Int)) = ((64 * i + Lib.ctz 64 w : Nat) : Int) := by rw [wrap_i64] <;> omega
    have w2 : IntKind.u64.wrap ((w : Int) - 1) = ((w - 1 : Nat) : Int) := by rw [wrap_u64] <;> omega
    have ba := b_and w (w - 1) c6 (by omega)
    have hp := p90 w c6
    have hlen : pre.length < 128 := by
     have h1 := congrArg List.length c7
     rw [List.length_append, List.length_map, k2, List.length_cons, prS_step m i hi, List.length_append, List.length_map] at h1
     have := bl_len (wd m i)
     omega
    have hyx := hy pre σ n (64 * i + Lib.ctz 64 w) (by omega) hlen c8
    simp +contextual -implicitDefEqProofs (maxSteps := 2000000) only [↓wP, wQ, wQ1, wQ2, wQ3, wR, boxE, partsOf, ↓reduceIte, n1w, n2w, n3w, n4w, n5w, n6w, reduceCtorEq, i1w, i2w, i3w, i4w, i5w, c1, c2, c3, c4, c5, hz, w64, hp, w1]
    refine stepW_yld (yieldW_mono (fun _ _ x => x) run_mono (fun y σ' n' ⟨hy1, hy2⟩ => ?_) hyx)
    subst hy1
    simp +contextual -implicitDefEqProofs (maxSteps := 2000000) only [↓wP, wQ, wQ1, wQ2, wQ3, wR, boxE, partsOf, ↓reduceIte, n1w, n2w, n3w, n4w, n5w, n6w, reduceCtorEq, i1w, i2w, i3w, i4w, i5w, c1, c2, c3, c4, c5, w2, ba]
    refine ⟨(w &&& (w - 1), pre ++ [64 * i + Lib.ctz 64 w]), k3, rfl, by dsimp only; omega, ?_, hy2⟩
    dsimp only
    rw [← c7, k2, List.map_cons, List.append_assoc]
    rfl
  ·simp +contextual -implicitDefEqProofs (maxSteps := 2000000) only [↓wP, wQ, wQ1, wQ2, wQ3, wR, boxE, partsOf, ↓reduceIte, n1w, n2w, n3w, n4w, n5w, n6w, reduceCtorEq, i1w, i2w, i3w, i4w, i5w, g1, g2, e1]
   exact ⟨hwd i, (prS_step m i hi).symm, g3⟩
 ·intro env σ n ⟨g1, g2, g3⟩ e1 e2
  simp +contextual -implicitDefEqProofs (maxSteps := 2000000) only [↓wP, wQ, wQ1, wQ2, wQ3, wR, boxE, partsOf, ↓reduceIte, n1w, n2w, n3w, n4w, n5w, n6w, reduceCtorEq, i1w, i2w, i3w, i4w, i5w]
  exact g3
 ·simp +contextual -implicitDefEqProofs (maxSteps := 2000000) only [↓wP, wQ, wQ1, wQ2, wQ3, wR, boxE, partsOf, ↓reduceIte, n1w, n2w, n3w, n4w, n5w, n6w, reduceCtorEq, i1w, i2w, i3w, i4w, i5w]
  exact h0
end Go.Q.SD
end

section
/- A mask's slots, as a row. -/
namespace Go.Q.SD
open Go.Q Go.Sort
theorem slLoop {env : Nat → V} {σ : Sto} {n d : Nat} {Q : Ex → St → Prop} (m : Nat × Nat) (hm : Mk m)
 (hg : env 6 = .fn 89 [.box [.int .u64 (m.1 : Int), .int .u64 (m.2 : Int)]]) (hd : env 3 = .ptr d 1 0 0) (hσ : σ d = some (.row 1 [.nilS])) (hdn : d < n)
 (hQ : ∀ σ' n' gv, (∀ i, i < n → i ≠ d → σ' i = σ i) → n ≤ n' → σ' d = some (.row 1 [gv]) → Pl σ' n n' 1 gv (oL ((slN m).map nV)) → Q .normal ⟨env, σ', n', 0⟩) :
 WC T (.rangeF (.tmp 6) [7] (.reg [⟨some 4, none, .mov (.tmp 7)⟩])
  (.block 1 (.reg [⟨some 8, none, .load false 1 (.tmp 3)⟩, ⟨some 9, none, .mov (.tmp 4)⟩, ⟨some 10, none, .lit 1 [.tmp 9]⟩, ⟨some 11, none, .append 1 8 (.tmp 8) (.tmp 10)⟩, ⟨none, none, .store 1 (.tmp 3) (.tmp 11)⟩]))) env σ n 0 Q := by
 refine WC_rangeF hg (Nat.zero_le _) ?_
 generalize hA : AC.reg [⟨some 4, none, .mov (.tmp 7)⟩] = asg
 generalize hB : AC.block 1 _ = bd
 refine run_mono _ _ _ (fun r ho => ?_) (raw89 m hm (fun pre σ' n' => n < n' ∧ (∀ i, i < n → i ≠ d → σ' i = σ i) ∧ σ' n = some (.loop env [7] asg bd .ready none) ∧
  ∃ gv, σ' d = some (.row 1 [gv]) ∧ Pl σ' (n + 1) n' 1 gv (oL (pre.map nV))) n ?_ _ _ ?_)
 ·cases r <;> try exact ho.elim
  obtain ⟨e1, e2, e3, gv, e4, e5⟩ := ho
  refine ⟨_, _, _, _, _, _, e3, by decide, ?_⟩
  refine hQ _ _ gv (fun i hi h2 => by rw [upd_ne (by omega)]; exact e2 i hi h2) (by omega) (by rw [upd_ne (by omega)]; exact e4) ?_
  have := e5.loc (σ' := upd _ n none) (fun i hi _ => upd_ne (by omega)) (Nat.le_refl _)
  cases ho' : oL ((slN m).map nV) with
  | none => rw [ho'] at this; exact this
  | some xs => rw [ho'] at this; obtain ⟨i, f1, f2, f3, f4⟩ := this; exact ⟨i, f1, f2, by omega, f4⟩
 ·rintro pre σ' n' s hs hpre ⟨e1, e2, e3, gv, e4, e5⟩
  refine yieldW_go e3 rfl (Nat.zero_le _) ?_ (hd := ⟨by rw [← hA]; rfl, by rw [← hB]; rfl⟩)
  obtain ⟨LR, hLR⟩ : ∃ LR, LR = Ob.loop env [7] asg bd .ready none := ⟨_, rfl⟩
  obtain ⟨LB, hLB⟩ : ∃ LB, LB = Ob.loop env [7] asg bd .busy none := ⟨_, rfl⟩
  rw [← hLR] at e3 ⊢
  rw [← hLB]
  subst hA
  subst hB
  have a3 : (d = n) = False := by simp; omega
  have a4 : (n = d) = False := by simp; omega
  have b1 := e5.cells
  obtain ⟨σ1, hσ1⟩ : ∃ σ1, σ1 = upd σ' n (some LB) := ⟨_, rfl⟩
  have s1 : ∀ i, i ≠ n → σ1 i = σ' i := fun i hi => by rw [hσ1, upd_ne hi]
  have s3 : σ1 n = some LB := by rw [hσ1, upd_self]
  have s4 : σ1 d = some (.row 1 [gv]) := by rw [s1 d (by omega)]; exact e4
  have hvn : ∀ i, i ≤ n → ∀ off len sz, gv ≠ .ref i off len sz := by
   intro i hi off len sz e
   subst e
   cases ho' : oL (pre.map nV) with
   | none => rw [ho'] at e5; cases e5
   | some xs => rw [ho'] at e5; obtain ⟨i, e, -, e2, -⟩ := e5; simp only [V.ref.injEq] at e; omega
  have hsp := spl e5
  obtain ⟨σ2, hσ2⟩ : ∃ σ2, σ2 = upd σ1 n' (some (.row 1 [.int .i64 (s : Int)])) := ⟨_, rfl⟩
  have t1 : ∀ i, i < n' → σ2 i = σ1 i := fun i hi => by rw [hσ2, upd_ne (by omega)]
  have t2 : σ2 n' = some (.row 1 [.int .i64 (s : Int)]) := by rw [hσ2, upd_self]
  have e5' := e5.loc (σ' := σ2) (n' := n') (fun i hi hi2 => by rw [t1 i hi2, s1 i (by omega)]) (Nat.le_refl _)
  simp +contextual -implicitDefEqProofs (maxSteps := 2000000) only [↓wP, wS, seval, bind_cons, bind_nil, hd, e3, e4, a3, a4, b1, ← hσ1, s4, ← hσ2, t2]
  refine stepW_app1 (m := n + 1) (n0 := n') (σ0 := σ2) e5' (fun i _ _ => rfl) (by omega) (by omega) (Nat.zero_le _) ?_ (fun _ σ3 g1 g2 => ?_)
  ·rw [lst_oL, List.length_map]; unfold LIM; omega
  ·rw [lst_oL] at g1 ⊢
   have u1 : ∀ i, i ≤ n → σ3 i = σ1 i := fun i hi => by rw [g2 i (by omega) (hvn i hi), t1 i (by omega)]
   have u2 : σ3 d = some (.row 1 [gv]) := by rw [u1 d (by omega)]; exact s4
   have u3 : σ3 n = some LB := by rw [u1 n (Nat.le_refl _)]; exact s3
   simp +contextual -implicitDefEqProofs (maxSteps := 2000000) only [↓wP, wS, seval, bind_cons, bind_nil, hd, u2, u3, a3, a4, hsp]
   refine ⟨by omega, fun i hi hid => ?_, _, rfl, ?_⟩
   ·rw [if_neg (by omega), u1 i (by omega), s1 i (by omega)]
    exact e2 i hi hid
   ·rw [List.map_append]
    have e6 : oL (pre.map nV ++ [s].map nV) = some (pre.map nV ++ [.int .i64 (s : Int)]) := by
     cases pre <;> rfl
    rw [e6]
    exact g1.loc (fun i hi _ => by rw [upd_ne (by omega), upd_ne (by omega)]) (by omega)
 ·exact ⟨by omega, fun i hi _ => upd_ne (by omega), upd_self _ _ _, .nilS, by rw [upd_ne (by omega)]; exact hσ, by simp [oL, Pl]⟩
theorem r61 (m : Nat × Nat) : res T 61 [.agg [.int .u64 (m.1 : Int), .int .u64 (m.2 : Int)]] = some (.fn 89 [.box [.int .u64 (m.1 : Int), .int .u64 (m.2 : Int)]]) := by
 refine run_res (run_pure (fn := g61) rfl rfl (by decide) ?_)
 simp only [g61, b61, zO, zN, zM, zL, zG, zP, zQ, zI, zA, zT, zF, zB, zC, zD, zE, zH, zJ, zK]
 simp +contextual -implicitDefEqProofs (maxSteps := 2000000) only [↓wP, wS, seval]
def f61 (m : Nat × Nat) := callE_tr (by decide) (r61 m) (by simp [Tr, Tr_slV]) rfl
theorem r26 (m : Nat × Nat) (hm : Mk m) : res T 26 [.agg [.int .u64 (m.1 : Int), .int .u64 (m.2 : Int)]] = some (slV 1 nV (oL (slN m))) := by
 refine run_res (run_pure (fn := g26) rfl rfl (by decide) ?_)
 simp only [g26, b26, zO, zN, zM, zL, zG, zP, zQ, zI, zA, zT, zF, zB, zC, zD, zE, zH, zJ, zK]
 simp +contextual -implicitDefEqProofs (maxSteps := 2000000) only [↓wP, wS, seval, f61]
 refine slLoop (d := 1) m hm rfl rfl (by simp [upd]) (by omega) (fun σ' n' gv p1 p2 p3 p4 => ?_)
 have hc := p4.cells
 have hf := p4.frz (by
  intro x hx
  rw [lst_oL] at hx
  obtain ⟨y, -, rfl⟩ := List.mem_map.1 hx; rfl) (by
  intro x hx c hc
  rw [lst_oL] at hx
  obtain ⟨y, -, rfl⟩ := List.mem_map.1 hx
  simp only [nV, V.cells, List.mem_cons, List.not_mem_nil, or_false] at hc
  subst hc; rfl)
 simp +contextual -implicitDefEqProofs (maxSteps := 2000000) only [↓wP, wS, seval, p3, hc]
 rw [hf, slV_oL]
def f26 (m : Nat × Nat) (hm : Mk m) := callE_tr (by decide) (r26 m hm) (by simp [Tr]) (Nw_slV _ _ _ _)
end Go.Q.SD
end

section
/- The rows of an arena that are visible. -/
namespace Go.Q.SD
open Go.Q Go.Sort
theorem vis_mk {a : Option (List Cel)} (t : Int) (h : okA a = true) : Mk (visM t a) := by
 have hl : (lst a).length = 96 := by simp only [okA, Bool.and_eq_true, decide_eq_true_eq] at h; exact h.1
 have := (mskL_ok t (lst a) 96 (by omega) (by omega)).1
 rw [← hl, List.take_length] at this
 unfold visM
 rw [if_pos h]
 exact this
theorem bl_mem {w s : Nat} : s ∈ bl w ↔ s < 64 ∧ w.testBit s = true := by unfold bl; rw [List.mem_filter, List.mem_range]
theorem slN_mem {m : Nat × Nat} (hm : Mk m) {s : Nat} : s ∈ slN m ↔ s < 96 ∧ tb m.1 m.2 s = true := by
 unfold slN tb
 rw [List.mem_append, List.mem_map]
 constructor
 ·rintro (h | ⟨x, h, rfl⟩)
  ·obtain ⟨h1, h2⟩ := bl_mem.1 h
   exact ⟨by omega, by rw [if_pos h1]; exact h2⟩
  ·obtain ⟨h1, h2⟩ := bl_mem.1 h
   have hx : x < 32 := by
    by_cases hx : x < 32
    ·exact hx
    ·have := Nat.testBit_lt_two_pow (x := m.2) (i := x) (Nat.lt_of_lt_of_le hm.hi (by
      have : 2 ^ 32 ≤ 2 ^ x := Nat.pow_le_pow_right (by omega) (by omega)
      omega))
     rw [this] at h2; cases h2
   refine ⟨by omega, ?_⟩
   rw [if_neg (by omega), show 64 + x - 64 = x by omega]; exact h2
 ·rintro ⟨h1, h2⟩
  by_cases hs : s < 64
  ·rw [if_pos hs] at h2
   exact .inl (bl_mem.2 ⟨hs, h2⟩)
  ·rw [if_neg hs] at h2
   exact .inr ⟨s - 64, bl_mem.2 ⟨by omega, h2⟩, by omega⟩
theorem lst_oLn (l : List Nat) : lst (oL l) = l := lst_oL l
def rowAt' (a : List Cel) (s : Nat) : Option Rw := a[s]?.map fun c => ⟨c.id, c.v⟩
def seenR (t : Int) (a : Option (List Cel)) : List Rw := (slN (visM t a)).filterMap (rowAt' (lst a))
theorem plR {σ : Sto} {m n : Nat} {v : V} {R : List Rw} (h : Pl σ m n 2 v (oL (R.map rwV))) (k : Nat) : frz σ (k + 3) v = some (slV 2 rwV (oL R)) := by
 cases R with
 | nil => simp only [List.map_nil, oL, Pl] at h; subst h; rfl
 | cons r R =>
   obtain ⟨i, rfl, h1, -, -⟩ := h
   rw [frz_rf, h1, elemsO_row, if_pos (by omega), List.drop_zero, List.take_length, Option.bind_some]
   rw [mapM_id (fun x hx => by
    obtain ⟨y, -, rfl⟩ := List.mem_map.1 (show x ∈ (r :: R).map rwV from hx)
    simp only [rwV_eq, elemM_agg, List.mapM_cons, List.mapM_nil, frz_int, frz_slV]; rfl)]
   rfl
theorem r10 (a : Option (List Cel)) (t : Int) (ha : SmA a) (hA : okA a = true) : res T 10 [.agg [slV 5 celV a], .int .u64 t] = some (.tup [slV 2 rwV (oL (seenR t a)), .bool true]) := by
 refine run_res (run_pure (fn := g10) rfl rfl (by decide) ?_)
 simp only [g10, b10, zO, zN, zM, zL, zG, zP, zQ, zI, zA, zT, zF, zB, zC, zD, zE, zH, zJ, zK]
 have hmk := vis_mk t hA
 have hl : (lst a).length = 96 := by simp only [okA, Bool.and_eq_true, decide_eq_true_eq] at hA; exact hA.1
 have f23' := f23 a t ha
 have e0 : arE a = 0 := by simp [arE, hA]
 rw [e0] at f23'
 have hmem := fun s => slN_mem (s := s) hmk
 have hlen := slN_len (visM t a)
 have f26' := f26 (visM t a) hmk
 unfold seenR
 generalize visM t a = m at *
 obtain ⟨S, hS⟩ : ∃ S, S = slN m := ⟨_, rfl⟩
 rw [← hS] at hmem hlen f26' ⊢
 have hls : (lst (oL S)).length = S.length := by rw [lst_oLn]
 simp +contextual -implicitDefEqProofs (maxSteps := 2000000) only [↓wP, wS, seval, f23', f26', hls]
 refine WC_for S.length 0 (fun (j : Nat) env σ n => env 2 = .ptr 0 1 0 0 ∧ env 20 = slV 1 nV (oL S) ∧ 2 ≤ n ∧ σ 0 = some (.row 1 [.agg [slV 5 celV a]]) ∧ ∃ v, env 8 = v ∧ Pl σ 1 n 2 v (oL (((S.take j).filterMap (rowAt' (lst a))).map rwV))) (by omega) (by decide) (by decide) (fun _ _ => rfl) (fun _ _ _ => rfl) ?_ ?_ _ _ _ rfl rfl ?_
 ·intro j env σ n hj e1 e2 ⟨g1, g2, g3, g4, v, g5, g6⟩
  simp only [vl_tmp] at e2
  have hx : (lst (oL S))[j]? = some S[j] := by rw [lst_oLn]; exact List.getElem?_eq_getElem hj
  have hs96 := ((hmem S[j]).1 (List.getElem_mem hj)).1
  have ht : S.take (j + 1) = S.take j ++ [S[j]] := (List.take_append_getElem hj).symm
  have hnV : nV S[j] = .int .i64 (S[j] : Int) := rfl
  generalize S[j] = s at *
  have hc : (lst a)[s]? = some ((lst a)[s]'(by omega)) := List.getElem?_eq_getElem (by omega)
  have hsl : s < (lst a).length := by omega
  obtain ⟨c, hcc⟩ : ∃ c, c = (lst a)[s]'(by omega) := ⟨_, rfl⟩
  rw [← hcc] at hc
  have hfm : (S.take (j + 1)).filterMap (rowAt' (lst a)) = (S.take j).filterMap (rowAt' (lst a)) ++ [⟨c.id, c.v⟩] := by
   rw [ht, List.filterMap_append]
   simp [rowAt', hc]
  have hlj : ((S.take j).filterMap (rowAt' (lst a))).length ≤ j := by
   have h1 := List.length_filterMap_le (rowAt' (lst a)) (S.take j)
   rw [List.length_take] at h1; omega
  rw [hfm]
  generalize (S.take j).filterMap (rowAt' (lst a)) = R at *
  have hcl := g6.cells
  have hsp := spl g6
  have hBp := big_le
  have x0 : ∀ hid, hide σ n n hid 0 = σ 0 := fun hid => hide_low _ _ _ _ (by omega) (Nat.le_refl _)
  have x1 : (n + 1 ≤ n + BIG) = True := by simp; omega
  obtain ⟨M, hM⟩ : ∃ M, M = merge σ (upd σ n (some (Ob.row 2 [.agg [.int .u64 c.id, slV 1 i32V c.v]]))) n := ⟨_, rfl⟩
  have Ml : ∀ i, i < n → M i = σ i := fun i hi => by rw [hM, merge_low _ _ _ hi]
  have Mn : M n = some (Ob.row 2 [.agg [.int .u64 c.id, slV 1 i32V c.v]]) := by rw [hM, merge_in _ _ _ (Nat.le_refl _) (by omega), upd_self]
  simp +contextual -implicitDefEqProofs (maxSteps := 2000000) only [↓wP, wS, seval, e1, e2, g1, g2, g4, g5, hx, hnV, hsl, hc, celV_eq, x0, x1, hcl, ← hM, Mn]
  refine stepW_app1 (m := 1) (n0 := n) (σ0 := σ) g6 (fun i _ hi => Ml i hi) (by omega) (by omega) (Nat.zero_le _) ?_ (fun _ σ2 q1 q2 => ?_)
  ·rw [lst_oL, List.length_map]; unfold LIM; omega
  ·rw [lst_oL] at q1 ⊢
   simp +contextual -implicitDefEqProofs (maxSteps := 2000000) only [↓wP, wS, seval, e1, e2, g1, g2, hcl, hsp]
   refine ⟨by omega, ?_, _, rfl, ?_⟩
   ·rw [q2 0 (by omega) (fun off len sz e => by
     subst e
     cases R with
     | nil => simp only [List.map_nil, oL, Pl] at g6; cases g6
     | cons y R => obtain ⟨k, e, -, h5, h6⟩ := g6; simp only [V.ref.injEq] at e; omega), Ml 0 (by omega)]
    exact g4
   ·rw [List.map_append]
    have e6 : oL (R.map rwV ++ [(⟨c.id, c.v⟩ : Rw)].map rwV) = some (R.map rwV ++ [.agg [.int .u64 c.id, slV 1 i32V c.v]]) := by
     cases R <;> rfl
    rw [e6]
    exact q1
 ·intro env σ n ⟨g1, g2, g3, g4, v, g5, g6⟩ e1 e2
  rw [List.take_length] at g6
  have hf := plR g6 8
  simp +contextual -implicitDefEqProofs (maxSteps := 2000000) only [↓wP, wS, seval, g5, hf]
 ·simp +contextual -implicitDefEqProofs (maxSteps := 2000000) only [↓wP, wS, seval]
  exact ⟨_, rfl, by simp [oL, Pl]⟩
end Go.Q.SD
end

section
/- Lists in one of which a slot is, too. -/
namespace Go.Q.SD
open Go.Q Go.Sort
theorem r17 (c : Option (List Vc)) (h : (lst c).length ≤ 1000000) : res T 17 [slV 1 vecV c] = some (slV 1 vecV c) := by
 refine run_res (run_pure (fn := g17) rfl rfl (by decide) ?_)
 simp only [g17, b17, zO, zN, zM, zL, zG, zP, zQ, zI, zA, zT, zF, zB, zC, zD, zE, zH, zJ, zK]
 cases c with
 | none => simp +contextual -implicitDefEqProofs (maxSteps := 2000000) only [↓wP, wS, seval, slV_none, Option.isNone_none]
 | some l =>
   rw [lst_some] at h
   have hl : (l.map vecV).length * 24 ≤ LIM := by rw [List.length_map]; unfold LIM; omega
   simp +contextual -implicitDefEqProofs (maxSteps := 2000000) only [↓wP, wS, seval, slV_some, hl, true_or]
   have h12 := (Fz.ref (k := 11) (S := fun _ => True) (σ := upd (upd (upd Sto.empty 0 (some (.row 1 []))) 0 none) 1 (some (.row 1 (l.map vecV)))) (id := 1) (sz := 1) (xs := l.map vecV) (by simp [upd]) trivial (FzL.trees (fun y hy => by obtain ⟨t, -, rfl⟩ := List.mem_map.1 hy; exact Tr_slV _ _ _ _) (fun y hy c hc => by obtain ⟨t, -, rfl⟩ := List.mem_map.1 hy; rw [vecV_eq, cl_slV, List.mem_singleton] at hc; subst hc; exact Tr_slV _ _ _ _))).1
   simpa using h12
def f17 (c : Option (List Vc)) (h : (lst c).length ≤ 1000000) := callE_tr (by decide) (r17 c h) (by simp [Tr, Tr_slV]) (Nw_slV _ _ _ _)
def put1 (p s i : Nat) (m : Nat × Nat) : Nat × Nat := if i = p then orM m s else m
theorem r47 (i p s : Nat) (m : Nat × Nat) (hm : Mk m) (hs : s < 96) : res T 47 [.int .i64 (i : Int), .agg [.int .u64 (m.1 : Int), .int .u64 (m.2 : Int)], .box [.int .i64 (p : Int)], .box [.int .i64 (s : Int)]] = some (.agg [.int .u64 ((put1 p s i m).1 : Int), .int .u64 ((put1 p s i m).2 : Int)]) := by
 refine run_res (run_pure (fn := g47) rfl rfl (by decide) ?_)
 simp only [g47, b47, zO, zN, zM, zL, zG, zP, zQ, zI, zA, zT, zF, zB, zC, zD, zE, zH, zJ, zK]
 have f48' := f48 m s hm hs
 by_cases h : i = p
 ·have e : ((i : Int) == (p : Int)) = true := by simp [h]
  simp +contextual -implicitDefEqProofs (maxSteps := 2000000) only [↓wP, wS, seval, e, f48', put1, h, if_pos]
 ·have e : ((i : Int) == (p : Int)) = false := by simp; omega
  simp +contextual -implicitDefEqProofs (maxSteps := 2000000) only [↓wP, wS, seval, e, put1, h, if_false]
def f47 (i p s : Nat) (m : Nat × Nat) (hm : Mk m) (hs : s < 96) := callE_tr (by decide) (r47 i p s m hm hs) (by simp [Tr, Tr_slV]) rfl
def putM (ms : List (Nat × Nat)) (p s : Nat) : List (Nat × Nat) := ms.mapIdx fun i m => put1 p s i m
theorem putM_len (ms : List (Nat × Nat)) (p s : Nat) : (putM ms p s).length = ms.length := by unfold putM; rw [List.length_mapIdx]
theorem putM_mem {ms : List (Nat × Nat)} {p s : Nat} (hs : s < 96) (h : ∀ m ∈ ms, Mk m) : ∀ m ∈ putM ms p s, Mk m := by
 intro m hm
 unfold putM at hm
 obtain ⟨i, hi, rfl⟩ := List.mem_mapIdx.1 hm
 unfold put1
 split
 ·exact orM_mk (h _ (List.getElem_mem hi)) hs
 ·exact h _ (List.getElem_mem hi)
theorem putM_snoc (ms : List (Nat × Nat)) (p s j : Nat) (hj : j < ms.length) : putM (ms.take (j + 1)) p s = putM (ms.take j) p s ++ [put1 p s j ms[j]] := by
 unfold putM
 rw [← List.take_append_getElem hj, List.mapIdx_concat, List.length_take, Nat.min_eq_left (by omega)]
theorem m_fz10 {l : List (Nat × Nat)} : (∀ x ∈ l.map mV, Tr 10 x = true) ∧ (∀ x ∈ l.map mV, ∀ c ∈ x.cells, Tr 10 c = true) :=
 ⟨fun x hx => by obtain ⟨y, -, rfl⟩ := List.mem_map.1 hx; rfl, fun x hx c hc => by
  obtain ⟨y, -, rfl⟩ := List.mem_map.1 hx
  simp only [mV, V.cells, List.mem_cons, List.not_mem_nil, or_false] at hc
  rcases hc with rfl | rfl <;> rfl⟩
theorem r46 (c : Option (List Vc)) (ms : Option (List (Nat × Nat))) (p s : Nat) (hl : (lst c).length ≤ 1000000) (hml : (lst ms).length ≤ 1000000) (hm : ∀ m ∈ lst ms, Mk m) (hs : s < 96) : res T 46 [.agg [slV 1 vecV c, slV 2 mV ms], .fn 47 [.box [.int .i64 (p : Int)], .box [.int .i64 (s : Int)]]] = some (.agg [slV 1 vecV c, slV 2 mV (oL (putM (lst ms) p s))]) := by
 refine run_res (run_pure (fn := g46) rfl rfl (by decide) ?_)
 simp only [g46, b46, zO, zN, zM, zL, zG, zP, zQ, zI, zA, zT, zF, zB, zC, zD, zE, zH, zJ, zK]
 have f17' := f17 c hl
 simp +contextual -implicitDefEqProofs (maxSteps := 2000000) only [↓wP, wS, seval, f17']
 refine WC_for (lst ms).length 0 (fun (j : Nat) env σ n => env 1 = .fn 47 [.box [.int .i64 (p : Int)], .box [.int .i64 (s : Int)]] ∧ env 4 = .ptr 1 2 0 0 ∧ env 5 = .ptr 2 2 0 0 ∧ env 13 = slV 2 mV ms ∧ 3 ≤ n ∧ ∃ v, σ 2 = some (.row 2 [.agg [slV 1 vecV c, v]]) ∧ Pl σ 3 n 2 v (oL ((putM ((lst ms).take j) p s).map mV)) ∧ σ 1 = some (.row 2 [.agg [.nilS, .nilS]])) (by omega) (by decide) (by decide) (fun _ _ => rfl) (fun _ _ _ => rfl) ?_ ?_ _ _ _ rfl rfl ?_
 ·intro j env σ n hj e1 e2 ⟨g1, g2, g3, g4, g5, v, g6, g7, g8⟩
  simp only [vl_tmp] at e2
  have hx : (lst ms)[j]? = some (lst ms)[j] := List.getElem?_eq_getElem hj
  have f47' := f47 j p s (lst ms)[j] (hm _ (List.getElem_mem hj)) hs
  have hst := putM_snoc (lst ms) p s j hj
  rw [hst]
  have hlen : (putM ((lst ms).take j) p s).length ≤ j := by rw [putM_len, List.length_take]; omega
  generalize putM ((lst ms).take j) p s = R at *
  generalize (lst ms)[j] = m at *
  generalize put1 p s j m = m' at *
  have hcl := g7.cells
  have hsp := spl g7
  have hBp := big_le
  obtain ⟨σ1, hσ1⟩ : ∃ σ1, σ1 = upd (upd σ n (some (.row 2 [.agg [.int .u64 0, .int .u64 0]]))) n (some (.row 2 [.agg [.int .u64 (m.1 : Int), .int .u64 (m.2 : Int)]])) := ⟨_, rfl⟩
  have sl : ∀ i, i < n → σ1 i = σ i := fun i hi => by rw [hσ1, upd_ne (by omega), upd_ne (by omega)]
  have sn : σ1 n = some (.row 2 [.agg [.int .u64 (m.1 : Int), .int .u64 (m.2 : Int)]]) := by rw [hσ1, upd_self]
  have x0 : ∀ hid, hide σ1 (n + 1) (n + 1) hid 2 = σ 2 := fun hid => by rw [hide_low _ _ _ _ (by omega) (Nat.le_refl _), sl 2 (by omega)]
  have xn : ∀ hid, hide σ1 (n + 1) (n + 1) hid n = some (.row 2 [.agg [.int .u64 (m.1 : Int), .int .u64 (m.2 : Int)]]) := fun hid => by rw [hide_low _ _ _ _ (by omega) (Nat.le_refl _), sn]
  have x1 : (n + 2 ≤ n + (1 + BIG)) = True := by simp; omega
  obtain ⟨M, hM⟩ : ∃ M, M = merge σ1 (upd σ1 (n + 1) (some (Ob.row 2 [.agg [.int .u64 (m'.1 : Int), .int .u64 (m'.2 : Int)]]))) (n + 1) := ⟨_, rfl⟩
  have Ml : ∀ i, i < n → M i = σ i := fun i hi => by rw [hM, merge_low _ _ _ (by omega), sl i hi]
  have Mn : M (n + 1) = some (Ob.row 2 [.agg [.int .u64 (m'.1 : Int), .int .u64 (m'.2 : Int)]]) := by rw [hM, merge_in _ _ _ (Nat.le_refl _) (by omega), upd_self]
  simp +contextual -implicitDefEqProofs (maxSteps := 2000000) only [↓wP, wS, seval, e1, e2, g1, g2, g3, g4, hx, mV_eq, f47', hcl, ← hσ1, x0, xn, x1, g6, sn, ← hM, Mn]
  refine stepW_app1 (m := 3) (n0 := n) (σ0 := σ) g7 (fun i _ hi => Ml i hi) (by omega) (by omega) (Nat.zero_le _) ?_ (fun _ σ2 q1 q2 => ?_)
  ·rw [lst_oL, List.length_map]; unfold LIM; omega
  ·rw [lst_oL] at q1 ⊢
   have hvn : ∀ i, i < 3 → ∀ off len s, v ≠ .ref i off len s := by
    intro i hi off len s e
    subst e
    cases ho' : oL (R.map mV) with
    | none => rw [ho'] at g7; cases g7
    | some xs => rw [ho'] at g7; obtain ⟨k, e, -, e2, -⟩ := g7; simp only [V.ref.injEq] at e; omega
   have t2 : σ2 2 = some (.row 2 [.agg [slV 1 vecV c, v]]) := by rw [q2 2 (by omega) (hvn 2 (by omega)), Ml 2 (by omega)]; exact g6
   have t1 : σ2 1 = some (.row 2 [.agg [.nilS, .nilS]]) := by rw [q2 1 (by omega) (hvn 1 (by omega)), Ml 1 (by omega)]; exact g8
   simp +contextual -implicitDefEqProofs (maxSteps := 2000000) only [↓wP, wS, seval, e1, e2, g1, g2, g3, g4, hcl, hsp, t2]
   refine ⟨by omega, _, rfl, ?_, t1⟩
   have e6 : oL (List.map mV (R ++ [m'])) = some (R.map mV ++ [mV m']) := by
    rw [List.map_append]; cases R <;> rfl
   rw [e6]
   have q1' := q1.loc (σ' := upd σ2 2 (some (Ob.row 2 [V.agg [slV 1 vecV c, V.ref (n + (1 + BIG * 1)) 0 ((List.map mV R).length + 1) 2]]))) (fun i h1 h2 => upd_ne (by omega)) (Nat.le_refl _)
   exact q1'
 ·intro env σ n ⟨g1, g2, g3, g4, g5, v, g6, g7, g8⟩ e1 e2
  rw [List.take_length] at g7
  have hf := g7.frz (by rw [lst_oL]; exact m_fz.1) (by rw [lst_oL]; exact m_fz.2)
  rw [slV_oL] at hf
  have hcl := g7.cells
  have ho := g7.one
  have hf' := (Pl.loc (σ' := upd σ 1 (some (Ob.row 2 [.agg [slV 1 vecV c, v]]))) g7 (fun i h1 h2 => upd_ne (by omega)) (Nat.le_refl _)).frzk 10 (by rw [lst_oL]; exact m_fz10.1) (by rw [lst_oL]; exact m_fz10.2)
  rw [slV_oL] at hf'
  simp +contextual -implicitDefEqProofs (maxSteps := 2000000) only [↓wP, wS, seval, g2, g3, g6, g8, hcl, hf', ho]
 ·simp +contextual -implicitDefEqProofs (maxSteps := 2000000) only [↓wP, wS, seval]
  exact ⟨_, rfl, by simp [oL, Pl, putM]⟩
def f46 (c : Option (List Vc)) (ms : Option (List (Nat × Nat))) (p s : Nat) (hl : (lst c).length ≤ 1000000) (hml : (lst ms).length ≤ 1000000) (hm : ∀ m ∈ lst ms, Mk m) (hs : s < 96) := callE_tr (by decide) (r46 c ms p s hl hml hm hs) (by simp [Tr, Tr_slV]) (by simp [Nw, Nw_slV])
theorem f46p (c : Option (List Vc)) (ms : Option (List (Nat × Nat))) (p s : Nat) (hl : (lst c).length ≤ 1000000) (hml : (lst ms).length ≤ 1000000) (hm : ∀ m ∈ lst ms, Mk m) (hs : s < 96) (σ : Sto) (n a b : Nat)
 (ha : σ a = some (.row 1 [.int .i64 (p : Int)])) (hb : σ b = some (.row 1 [.int .i64 (s : Int)])) :
 ∃ σ', callE T true 46 [.agg [slV 1 vecV c, slV 2 mV ms], .fn 47 [.ptr a 1 0 0, .ptr b 1 0 0]] σ n 0 = some (.agg [slV 1 vecV c, slV 2 mV (oL (putM (lst ms) p s))], σ', n) ∧ ∀ i, i ≠ a → i ≠ b → σ' i = σ i := by
 have e1 : [V.agg [slV 1 vecV c, slV 2 mV ms], .fn 47 [.ptr a 1 0 0, .ptr b 1 0 0]].mapM (frz σ 12) = some [.agg [slV 1 vecV c, slV 2 mV ms], .fn 47 [.box [.int .i64 (p : Int)], .box [.int .i64 (s : Int)]]] := by
  simp [frz_agg, frz_slV, frz_fn, frz_ptr, ha, hb, rowO, V.cells, frz_int]
 have e2 : [V.agg [slV 1 vecV c, slV 2 mV ms], .fn 47 [.ptr a 1 0 0, .ptr b 1 0 0]].flatMap (rch σ 12) = [a, b] := by
  simp [rch_agg, rch_slV, rch_fn, rch_ptr, ha, hb, rowO, V.cells, rch_int]
 rw [callE_eq (by decide), e1, e2, callR_some, r46 c ms p s hl hml hm hs, retE_some]
 unfold backE
 have ht : ∀ σ : Sto, thaw σ n (.agg [slV 1 vecV c, slV 2 mV (oL (putM (lst ms) p s))]) = (.agg [slV 1 vecV c, slV 2 mV (oL (putM (lst ms) p s))], σ, n) := fun σ => thaw_nw _ _ 12 _ (by simp [Nw, Nw_slV])
 split
 ·exact ⟨σ, by rw [ht], fun _ _ _ => rfl⟩
 ·refine ⟨dropL σ [a, b], ?_, fun i h1 h2 => by simp [dropL, h1, h2]⟩
  rw [if_pos (by simp), ht]
theorem r19 (c : Option (List Vc)) (ms : Option (List (Nat × Nat))) (p s : Nat) (hl : (lst c).length ≤ 1000000) (hml : (lst ms).length ≤ 1000000) (hm : ∀ m ∈ lst ms, Mk m) (hs : s < 96) : res T 19 [.agg [slV 1 vecV c, slV 2 mV ms], .int .i64 (p : Int), .int .i64 (s : Int)] = some (.agg [slV 1 vecV c, slV 2 mV (oL (putM (lst ms) p s))]) := by
 refine run_res (run_pure (fn := g19) rfl rfl (by decide) ?_)
 simp only [g19, b19, zO, zN, zM, zL, zG, zP, zQ, zI, zA, zT, zF, zB, zC, zD, zE, zH, zJ, zK]
 obtain ⟨σ', h1, h2⟩ := f46p c ms p s hl hml hm hs (upd (upd (upd (upd Sto.empty 0 (some (.row 2 [.agg [slV 1 vecV c, slV 2 mV ms]]))) 1 (some (.row 1 [.int .i64 (p : Int)]))) 2 (some (.row 1 [.int .i64 (s : Int)]))) 3 (some (.row 2 [.agg [.nilS, .nilS]]))) 4 1 2 (by simp [upd]) (by simp [upd])
 have h3 := h2 3 (by decide) (by decide)
 rw [upd_self] at h3
 simp +contextual -implicitDefEqProofs (maxSteps := 2000000) only [↓wP, wS, seval, h1, h3]
def f19 (c : Option (List Vc)) (ms : Option (List (Nat × Nat))) (p s : Nat) (hl : (lst c).length ≤ 1000000) (hml : (lst ms).length ≤ 1000000) (hm : ∀ m ∈ lst ms, Mk m) (hs : s < 96) := callE_tr (by decide) (r19 c ms p s hl hml hm hs) (by simp [Tr, Tr_slV]) (by simp [Nw, Nw_slV])
end Go.Q.SD
end

section
/- The lists of centroids that agree with an arena. -/
namespace Go.Q.SD
open Go.Q Go.Sort
theorem r18e (c : Option (List Vc)) (v : Vc) (hl : (lst c).length ≤ 7) (hne : lst c ≠ []) (hv : ∀ x ∈ lst c, Sm x) (hv' : Sm v) (ea : allE (some (v :: lst c)) ≠ 0) :
 res T 18 [slV 1 vecV c, slV 1 i32V v] = some (.tup [.int .i64 0, .int .i64 (allE (some (v :: lst c)))]) := by
 refine run_res (run_pure (fn := g18) rfl rfl (by decide) ?_)
 simp only [g18, b18, zO, zN, zM, zL, zG, zP, zQ, zI, zA, zT, zF, zB, zC, zD, zE, zH, zJ, zK]
 have hp : 0 < (lst c).length := List.length_pos_iff.2 hne
 have z0 : (((lst c).length : Int) == 0) = false := by simp; exact hne
 have r43 := r36g (some (v :: lst c)) (by rw [lst_some, List.length_cons]; omega) (fun x hx => by
  rcases List.mem_cons.1 hx with rfl | hx
  ·exact hv'
  ·exact hv x hx)
 have hd : (allE (some (v :: lst c)) != 0) = true := by simpa using ea
 generalize allE (some (v :: lst c)) = E at *
 have hlm : ((lst c).map vecV).length = (lst c).length := List.length_map _
 have hL : (1 + (lst c).length) * 24 ≤ LIM := by unfold LIM; omega
 obtain ⟨σ1, hσ1⟩ : ∃ σ1, σ1 = upd (upd (upd Sto.empty 0 (some (Ob.row 1 [slV 1 i32V v]))) 0 none) 1 (some (Ob.row 1 (slV 1 i32V v :: (lst c).map vecV))) := ⟨_, rfl⟩
 have e : [V.ref 1 0 (1 + (lst c).length) 1].mapM (frz σ1 12) = some [slV 1 vecV (some (v :: lst c))] := by
  have hx : frz σ1 12 (.ref 1 0 (1 + (lst c).length) 1) = some (slV 1 vecV (some (v :: lst c))) := by
   have he : elems σ1 1 (.ref 1 0 (1 + (lst c).length) 1) = some ((v :: lst c).map vecV) := by
    rw [hσ1]
    simp [elems, upd]
    exact ⟨by omega, by rw [List.take_of_length_le (by rw [List.length_cons, List.length_map]; omega)]; rfl⟩
   show (elems _ _ _).bind _ = _
   rw [he, Option.bind_some, mapM_id (fun x hx => by
    obtain ⟨y, -, rfl⟩ := List.mem_map.1 hx
    exact elemM_tr (Tr_slV _ _ _ _))]
   rfl
  simp only [List.mapM_cons, List.mapM_nil, hx]; rfl
 have f43 := fun n lk => callE_flat (fs := true) (n := n) (lk := lk) (by decide) e r43 rfl
 simp only [thaw] at f43
 simp +contextual -implicitDefEqProofs (maxSteps := 2000000) only [↓wP, wS, seval, z0, true_or, hlm, hL, ← hσ1, f43, hd]
theorem f18e (c : Option (List Vc)) (v : Vc) (hl : (lst c).length ≤ 7) (hne : lst c ≠ []) (hv : ∀ x ∈ lst c, Sm x) (hv' : Sm v) (ea : allE (some (v :: lst c)) ≠ 0) (fs : Bool) (σ : Sto) (n lk : Nat) :
 callE T fs 18 [slV 1 vecV c, slV 1 i32V v] σ n lk = some (.tup [.int .i64 0, .int .i64 (allE (some (v :: lst c)))], σ, n) :=
 callE_tr (by decide) (r18e c v hl hne hv hv' ea) (by simp [Tr, Tr_slV]) rfl fs σ n lk
def bM (a : List Cel) (c : List Vc) : Nat → List (Nat × Nat)
 | 0 => List.replicate c.length (0, 0)
 | j + 1 => match a[j]? with
   | some x => if x.u then putM (bM a c j) (nb x.v c c.length) j else bM a c j
   | none => bM a c j
theorem bM_len (a : List Cel) (c : List Vc) : ∀ j, (bM a c j).length = c.length
 | 0 => List.length_replicate
 | j + 1 => by
   unfold bM
   split
   ·split
    ·rw [putM_len, bM_len a c j]
    ·exact bM_len a c j
   ·exact bM_len a c j
theorem bM_mk (a : List Cel) (c : List Vc) : ∀ j, j ≤ 96 → ∀ m ∈ bM a c j, Mk m
 | 0, _ => fun m hm => by rw [(List.mem_replicate.1 hm).2]; exact ⟨by show (0 : Nat) < _; omega, by show (0 : Nat) < _; omega⟩
 | j + 1, hj => by
   unfold bM
   split
   ·split
    ·exact putM_mem (by omega) (bM_mk a c j (by omega))
    ·exact bM_mk a c j (by omega)
   ·exact bM_mk a c j (by omega)
theorem bM_step {a : List Cel} {c : List Vc} {j : Nat} {x : Cel} (h : a[j]? = some x) : bM a c (j + 1) = if x.u then putM (bM a c j) (nb x.v c c.length) j else bM a c j := by
 rw [bM, h]
def MW (σ : Sto) (k : Nat) (w : V) (ms : List (Nat × Nat)) : Prop := w = slV 2 mV (oL ms) ∨ (w = .ref k 0 ms.length 2 ∧ σ k = some (.row 2 (ms.map mV)))
theorem MW.cells {σ : Sto} {k : Nat} {w : V} {ms : List (Nat × Nat)} (h : MW σ k w ms) : w.cells = [w] := by
 rcases h with rfl | ⟨rfl, -⟩
 ·exact cl_slV _ _ _
 ·rfl
theorem MW.one {σ : Sto} {k : Nat} {w : V} {ms : List (Nat × Nat)} (h : MW σ k w ms) : w.one = true := by
 rcases h with rfl | ⟨rfl, -⟩
 ·exact one_slV _ _ _
 ·rfl
theorem MW.loc {σ σ' : Sto} {k : Nat} {w : V} {ms : List (Nat × Nat)} (h : MW σ k w ms) (hs : σ' k = σ k) : MW σ' k w ms := by
 rcases h with h | ⟨h, h2⟩
 ·exact .inl h
 ·exact .inr ⟨h, by rw [hs]; exact h2⟩
theorem m_fzk (k : Nat) {l : List (Nat × Nat)} : (∀ x ∈ l.map mV, Tr (k + 2) x = true) ∧ (∀ x ∈ l.map mV, ∀ c ∈ x.cells, Tr (k + 2) c = true) :=
 ⟨fun x hx => by obtain ⟨y, -, rfl⟩ := List.mem_map.1 hx; rfl, fun x hx c hc => by
  obtain ⟨y, -, rfl⟩ := List.mem_map.1 hx
  simp only [mV, V.cells, List.mem_cons, List.not_mem_nil, or_false] at hc
  rcases hc with rfl | rfl <;> rfl⟩
theorem MW.frz {σ : Sto} {k : Nat} {w : V} {ms : List (Nat × Nat)} (h : MW σ k w ms) (hne : ms ≠ []) (d : Nat) : Go.Q.frz σ (d + 3) w = some (slV 2 mV (oL ms)) ∧ ∀ i ∈ rch σ (d + 3) w, i = k := by
 rcases h with rfl | ⟨rfl, h⟩
 ·exact ⟨frz_slV _ _ _ _ _, fun i hi => by rw [rch_slV] at hi; cases hi⟩
 ·have hp : Pl σ k (k + 1) 2 (.ref k 0 ms.length 2) (some (ms.map mV)) := ⟨k, by rw [List.length_map], h, by omega, by omega⟩
  refine ⟨?_, ?_⟩
  ·have := hp.frzk (d + 2) (m_fzk d).1 (m_fzk d).2
   rw [this]
   cases ms with
   | nil => exact absurd rfl hne
   | cons => simp [oL, slV]
  ·intro i hi
   rw [rch_rf, h] at hi
   rcases List.mem_cons.1 hi with rfl | hi
   ·rfl
   ·exfalso
    obtain ⟨x, hx, hi⟩ := List.mem_flatMap.1 hi
    obtain ⟨y, hy, hi⟩ := List.mem_flatMap.1 hi
    have hx' : x ∈ ms.map mV := by
     simp only [elemsO, List.drop_zero, List.length_map] at hx
     have : (ms.map mV).take ms.length = ms.map mV := by rw [List.take_of_length_le (by rw [List.length_map]; exact Nat.le_refl _)]
     simp only [Nat.zero_add, Nat.le_refl, and_self, if_true, this] at hx
     simpa using hx
    have := (m_fzk d).2 x hx' y hy
    rw [(frz_tr σ (d + 2) y this).2] at hi
    cases hi
theorem f19m (c : Option (List Vc)) {ms : List (Nat × Nat)} (p s : Nat) (hl : (lst c).length ≤ 1000000) (hml : ms.length ≤ 1000000) (hne : ms ≠ []) (hm : ∀ m ∈ ms, Mk m) (hs : s < 96) {σ : Sto} {k : Nat} {w : V} (h : MW σ k w ms) (n : Nat) :
 ∃ σ', callE T true 19 [.agg [slV 1 vecV c, w], .int .i64 (p : Int), .int .i64 (s : Int)] σ n 0 = some (.agg [slV 1 vecV c, slV 2 mV (oL (putM ms p s))], σ', n) ∧ ∀ i, i ≠ k → σ' i = σ i := by
 obtain ⟨h1, h2⟩ := h.frz hne 8
 have e1 : [V.agg [slV 1 vecV c, w], .int .i64 (p : Int), .int .i64 (s : Int)].mapM (Go.Q.frz σ 12) = some [.agg [slV 1 vecV c, slV 2 mV (oL ms)], .int .i64 (p : Int), .int .i64 (s : Int)] := by
  simp [frz_agg, frz_slV, h1, frz_int]
 have e2 : ∀ i ∈ [V.agg [slV 1 vecV c, w], .int .i64 (p : Int), .int .i64 (s : Int)].flatMap (rch σ 12), i = k := by
  simp [rch_agg, rch_slV, rch_int]
  exact h2
 have r := r19 c (oL ms) p s hl (by rw [lst_oL]; exact hml) (by rw [lst_oL]; exact hm) hs
 rw [lst_oL] at r
 rw [callE_eq (by decide), e1, callR_some, r, retE_some]
 generalize [V.agg [slV 1 vecV c, w], .int .i64 (p : Int), .int .i64 (s : Int)].flatMap (rch σ 12) = D at *
 unfold backE
 have ht : ∀ σ : Sto, thaw σ n (.agg [slV 1 vecV c, slV 2 mV (oL (putM ms p s))]) = (.agg [slV 1 vecV c, slV 2 mV (oL (putM ms p s))], σ, n) := fun σ => thaw_nw _ _ 12 _ (by simp [Nw, Nw_slV])
 split
 ·exact ⟨σ, by rw [ht], fun _ _ => rfl⟩
 ·refine ⟨dropL σ D, ?_, fun i h1 => ?_⟩
  ·rw [if_pos (by simp), ht]
  ·have : i ∉ D := fun hi => h1 (e2 i hi)
   simp [dropL, this]
def bE (a : Option (List Cel)) (c : Option (List Vc)) : Int :=
 if okA a = false then 190 else if cents c = false then 230 else if lst c = [] then 0
 else if (lst a).all (fun x => !x.u || decide ((lst x.v).length = dm c)) then 0 else 151
def bL (a : Option (List Cel)) (c : Option (List Vc)) : Option (List Vc) := if bE a c = 0 then (if lst c = [] then none else c) else none
def bK (a : Option (List Cel)) (c : Option (List Vc)) : List (Nat × Nat) := if bE a c = 0 then (if lst c = [] then [] else bM (lst a) (lst c) 96) else []
end Go.Q.SD
end

section
/- The lists of centroids that agree with an arena. -/
namespace Go.Q.SD
open Go.Q Go.Sort
open Nat renaming reduceEqDiff → n1w, reduceAdd → n2w, reduceSub → n3w, reduceLeDiff → n4w, reduceLT → n5w, reduceMul → n6w
open Int renaming reduceBNe → i1w, reduceBEq → i2w, reduceLT → i3w, reduceLE → i4w, reduceGT → i5w
theorem r7 (a : Option (List Cel)) (c : Option (List Vc)) (ha : SmA a) (hl : (lst c).length ≤ 7) (hv : ∀ v ∈ lst c, Sm v) : res T 7 [.agg [slV 5 celV a], slV 1 vecV c] = some (.tup [.agg [slV 1 vecV (bL a c), slV 2 mV (oL (bK a c))], .int .i64 (bE a c)]) := by
 refine run_res (run_pure (fn := g7) rfl rfl (by decide) ?_)
 simp only [g7, b7, zO, zN, zM, zL, zG, zP, zQ, zI, zA, zT, zF, zB, zC, zD, zE, zH, zJ, zK]
 have f15' := f15 a ha
 have f16' := f16 c (by omega) hv
 cases hA : okA a
 ·have e1 : bE a c = 190 := by simp [bE, hA]
  have e2 : bL a c = none := by simp [bL, e1]
  have e3 : bK a c = [] := by simp [bK, e1]
  have e0 : arE a = 190 := by simp [arE, hA]
  rw [e0] at f15'
  rw [e1, e2, e3]
  simp +contextual -implicitDefEqProofs (maxSteps := 2000000) only [↓wP, wQ, wQ1, wQ2, wQ3, wR, boxE, partsOf, ↓reduceIte, n1w, n2w, n3w, n4w, n5w, n6w, reduceCtorEq, i1w, i2w, i3w, i4w, i5w, f15']
  rfl
 have e0 : arE a = 0 := by simp [arE, hA]
 rw [e0] at f15'
 cases hC : cents c
 ·have e1 : bE a c = 230 := by simp [bE, hA, hC]
  have e2 : bL a c = none := by simp [bL, e1]
  have e3 : bK a c = [] := by simp [bK, e1]
  rw [hC] at f16'
  rw [e1, e2, e3]
  simp +contextual -implicitDefEqProofs (maxSteps := 2000000) only [↓wP, wQ, wQ1, wQ2, wQ3, wR, boxE, partsOf, ↓reduceIte, n1w, n2w, n3w, n4w, n5w, n6w, reduceCtorEq, i1w, i2w, i3w, i4w, i5w, f15', f16']
  rfl
 rw [hC] at f16'
 have f17' := f17 c (by omega)
 have hk : (0 ≤ ((lst c).length : Int) ∧ ((16 : Nat) : Int) * ((lst c).length : Int) ≤ 140737488355328) = True := by simp; omega
 obtain ⟨σ0, hσ0⟩ : ∃ σ0, σ0 = upd (upd Sto.empty 0 (some (Ob.row 1 [.agg [slV 5 celV a]]))) 1 (some (Ob.row 2 [.agg [.nilS, .nilS]])) := ⟨_, rfl⟩
 have s0 : σ0 0 = some (Ob.row 1 [.agg [slV 5 celV a]]) := by rw [hσ0]; simp [upd]
 have s1 : σ0 1 = some (Ob.row 2 [.agg [.nilS, .nilS]]) := by rw [hσ0]; simp [upd]
 obtain ⟨M1, hM1⟩ : ∃ M1, M1 = merge σ0 (upd (hide σ0 2 2 [1]) 2 (some (Ob.row 2 (List.replicate (lst c).length (V.agg [.int .u64 0, .int .u64 0]))))) 2 := ⟨_, rfl⟩
 have hBp := big_le
 have x1 : (3 ≤ 2 + BIG) = True := by simp; omega
 obtain ⟨K, hK⟩ : ∃ K, K = 2 + BIG * 1 := ⟨_, rfl⟩
 have x2 : (2 + (BIG * 1 + 1) ≤ 2 + (BIG * 1 + BIG)) = True := by simp; omega
 obtain ⟨M2, hM2⟩ : ∃ M2, M2 = merge M1 (upd (hide M1 2 (2 + BIG * 1) [0]) (2 + BIG * 1) (some (Ob.row 2 [.agg [.nilS, .nilS]]))) (2 + BIG * 1) := ⟨_, rfl⟩
 have m0 : M2 0 = some (Ob.row 1 [.agg [slV 5 celV a]]) := by rw [hM2, merge_low _ _ _ (by omega), hM1, merge_low _ _ _ (by omega), s0]
 have m1 : M2 1 = some (Ob.row 2 [.agg [.nilS, .nilS]]) := by rw [hM2, merge_low _ _ _ (by omega), hM1, merge_low _ _ _ (by omega), s1]
 have m2 : M2 2 = some (Ob.row 2 (List.replicate (lst c).length (V.agg [.int .u64 0, .int .u64 0]))) := by rw [hM2, merge_low _ _ _ (by omega), hM1, merge_in _ _ _ (by omega) (by omega), upd_self]
 have mK : M2 (2 + BIG * 1) = some (Ob.row 2 [.agg [.nilS, .nilS]]) := by rw [hM2, merge_in _ _ _ (by omega) (by omega), upd_self]
 have i0 : (0 = 2 + BIG * 1) = False := by simp; omega
 have i1 : (1 = 2 + BIG * 1) = False := by simp; omega
 have i2 : (2 = 2 + BIG * 1) = False := by simp; omega
 by_cases hne : lst c = []
 ·have e1 : bE a c = 0 := by simp [bE, hA, hC, hne]
  have e2 : bL a c = none := by simp [bL, e1, hne]
  have e3 : bK a c = [] := by simp [bK, e1, hne]
  have z0 : (((lst c).length : Int) == 0) = true := by simp [hne]
  rw [e1, e2, e3]
  simp +contextual -implicitDefEqProofs (maxSteps := 2000000) only [↓wP, wQ, wQ1, wQ2, wQ3, wR, boxE, partsOf, ↓reduceIte, n1w, n2w, n3w, n4w, n5w, n6w, reduceCtorEq, i1w, i2w, i3w, i4w, i5w, f15', f16', f17', z0, hk, Int.toNat_natCast, ← hσ0, s0, s1, ← hM1, x1, x2, ← hM2, mK, m1, i1]
  rfl
 have z0 : (((lst c).length : Int) == 0) = false := by simp [hne]
 have hb : bE a c = if (lst a).all (fun x => !x.u || decide ((lst x.v).length = dm c)) then 0 else 151 := by simp [bE, hA, hC, hne]
 have hl96 : (lst a).length = 96 := by simp only [okA, Bool.and_eq_true, decide_eq_true_eq] at hA; exact hA.1
 have hcel : ∀ x ∈ lst a, okCel x = true := by simp only [okA, Bool.and_eq_true, List.all_eq_true] at hA; exact hA.2
 have hcc : ∀ x ∈ lst c, okV x = true ∧ (lst x).length = dm c := by
  simp only [cents, Bool.and_eq_true, List.all_eq_true, okC, decide_eq_true_eq] at hC
  exact hC.2
 simp +contextual -implicitDefEqProofs (maxSteps := 2000000) only [↓wP, wQ, wQ1, wQ2, wQ3, wR, boxE, partsOf, ↓reduceIte, n1w, n2w, n3w, n4w, n5w, n6w, reduceCtorEq, i1w, i2w, i3w, i4w, i5w, f15', f16', f17', z0, hk, Int.toNat_natCast, ← hσ0, s0, s1, ← hM1, x1, x2, ← hM2, mK, m0, m1, i0, i1]
 refine WC_for (lst a).length 0 (fun (j : Nat) env σ n => env 1 = slV 1 vecV c ∧ env 4 = .ptr 1 2 0 0 ∧ env 7 = .ptr K 2 0 0 ∧ env 33 = slV 5 celV a ∧ K < n ∧ σ 1 = some (.row 2 [.agg [.nilS, .nilS]]) ∧ ((lst a).take j).all (fun x => !x.u || decide ((lst x.v).length = dm c)) = true ∧ ∃ w, σ K = some (.row 2 [.agg [slV 1 vecV c, w]]) ∧ MW σ 2 w (bM (lst a) (lst c) j)) (by omega) (by decide) (by decide) (fun _ _ => rfl) (fun _ _ _ => rfl) ?_ ?_ _ _ _ rfl rfl ?_
 ·intro j env σ n hj g1 g2 ⟨g3, g4, g5, g6, g7, g8, g9, w, g10, g11⟩
  simp only [vl_tmp] at g2
  have hx : (lst a)[j]? = some (lst a)[j] := List.getElem?_eq_getElem hj
  have hxm := List.getElem_mem hj
  have hbs := bM_step (c := lst c) hx
  have hta : ((lst a).take (j + 1)).all (fun x => !x.u || decide ((lst x.v).length = dm c)) = (!(lst a)[j].u || decide ((lst (lst a)[j].v).length = dm c)) := by
   rw [← List.take_append_getElem hj, List.all_append, g9]; simp
  have hox := hcel _ hxm
  have hsx := ha.2 _ hxm
  generalize (lst a)[j] = x at *
  rw [hta]
  have q1 : (1 = n) = False := by simp; omega
  have q3 : (1 = K) = False := by simp; omega
  have q2 : (K = n) = False := by simp; omega
  obtain ⟨σ1, hσ1⟩ : ∃ σ1, σ1 = upd (upd σ n (some (.row 5 [.agg [.bool false, .int .u64 0, .int .u64 0, .int .u64 0, .nilS]]))) n (some (.row 5 [.agg [.bool x.u, .int .u64 x.id, .int .u64 x.b, .int .u64 x.e, slV 1 i32V x.v]])) := ⟨_, rfl⟩
  have tn : σ1 n = some (.row 5 [.agg [.bool x.u, .int .u64 x.id, .int .u64 x.b, .int .u64 x.e, slV 1 i32V x.v]]) := by rw [hσ1]; simp [upd]
  have tl : ∀ i, i < n → σ1 i = σ i := fun i hi => by rw [hσ1, upd_ne (by omega), upd_ne (by omega)]
  have t1 : σ1 1 = some (.row 2 [.agg [.nilS, .nilS]]) := by rw [tl 1 (by omega)]; exact g8
  have tK : σ1 K = some (.row 2 [.agg [slV 1 vecV c, w]]) := by rw [tl K (by omega)]; exact g10
  have tw : MW σ1 2 w (bM (lst a) (lst c) j) := g11.loc (tl 2 (by omega))
  have hbl := bM_len (lst a) (lst c) j
  have hbm := bM_mk (lst a) (lst c) j (by omega)
  have hwc := tw.cells
  have hwo := tw.one
  cases hu : x.u
  ·rw [hu] at hbs tn hσ1
   simp +contextual -implicitDefEqProofs (maxSteps := 2000000) only [↓wP, wQ, wQ1, wQ2, wQ3, wR, boxE, partsOf, ↓reduceIte, n1w, n2w, n3w, n4w, n5w, n6w, reduceCtorEq, i1w, i2w, i3w, i4w, i5w, g1, g2, g3, g4, g5, g6, hx, celV_eq, hu, ← hσ1, tn]
   rw [hbs]
   exact ⟨by omega, t1, w, tK, by simpa using tw⟩
  ·rw [hu] at hbs tn hσ1
   by_cases hd : (lst x.v).length = dm c
   ·have hvx : okV x.v = true := by
     simp only [okCel, hu, if_true, okVer, Bool.and_eq_true] at hox
     exact hox.2
    have hne' : bM (lst a) (lst c) j ≠ [] := fun h => by rw [h] at hbl; exact hne (List.length_eq_zero_iff.1 hbl.symm)
    have f18' := f18 c x.v hl hne (fun y hy => ⟨(hcc y hy).1, hvx, by rw [(hcc y hy).2, hd]⟩) hv hsx
    obtain ⟨σ2, f19', u1⟩ := f19m c (nb x.v (lst c) (lst c).length) j (by omega) (by omega) hne' hbm (by omega) tw (n + 1)
    have uK := u1 K (by omega)
    have u1' := u1 1 (by omega)
    rw [tK] at uK
    rw [t1] at u1'
    simp +contextual -implicitDefEqProofs (maxSteps := 2000000) only [↓wP, wQ, wQ1, wQ2, wQ3, wR, boxE, partsOf, ↓reduceIte, n1w, n2w, n3w, n4w, n5w, n6w, reduceCtorEq, i1w, i2w, i3w, i4w, i5w, g1, g2, g3, g4, g5, g6, hx, celV_eq, hu, ← hσ1, tn, f18', tK, f19', uK, q3, u1']
    refine ⟨by omega, by simp [hd], _, rfl, ?_⟩
    rw [hbs, if_pos rfl]
    exact .inl rfl
   ·have hal : allE (some (x.v :: lst c)) = 151 := by
     have hvx : okV x.v = true := by
      simp only [okCel, hu, if_true, okVer, Bool.and_eq_true] at hox
      exact hox.2
     obtain ⟨y, hy⟩ := List.exists_mem_of_ne_nil _ hne
     unfold allE
     rw [if_pos, if_pos]
     ·rw [List.any_eq_true]
      refine ⟨y, by rw [lst_some]; exact List.mem_cons_of_mem _ hy, ?_⟩
      have h1 := (hcc y hy).2
      have h2 : dm (some (x.v :: lst c)) = (lst x.v).length := rfl
      rw [h2]
      simp only [bne_iff_ne, ne_eq]; omega
     ·rw [List.all_eq_true, lst_some]
      intro z hz
      rcases List.mem_cons.1 hz with rfl | hz
      ·exact hvx
      ·exact (hcc z hz).1
    have f18' := f18e c x.v hl hne hv hsx (by rw [hal]; decide)
    rw [hal] at f18'
    have e1 : bE a c = 151 := by
     rw [hb, if_neg]
     intro h
     have := List.all_eq_true.1 h x hxm
     rw [hu, decide_eq_false hd] at this
     cases this
    have e2 : bL a c = none := by simp [bL, e1]
    have e3 : bK a c = [] := by simp [bK, e1]
    rw [e1, e2, e3]
    simp +contextual -implicitDefEqProofs (maxSteps := 2000000) only [↓wP, wQ, wQ1, wQ2, wQ3, wR, boxE, partsOf, ↓reduceIte, n1w, n2w, n3w, n4w, n5w, n6w, reduceCtorEq, i1w, i2w, i3w, i4w, i5w, g1, g2, g3, g4, g5, g6, hx, celV_eq, hu, ← hσ1, tn, f18', t1]
    rfl
 ·intro env σ n ⟨g3, g4, g5, g6, g7, g8, g9, w, g10, g11⟩ g1 g2
  rw [List.take_length] at g9
  have e1 : bE a c = 0 := by rw [hb, if_pos g9]
  have e2 : bL a c = c := by simp [bL, e1, hne]
  have e3 : bK a c = bM (lst a) (lst c) (lst a).length := by simp [bK, e1, hne, hl96]
  have hbl := bM_len (lst a) (lst c) (lst a).length
  have hne' : bM (lst a) (lst c) (lst a).length ≠ [] := fun h => by rw [h] at hbl; exact hne (List.length_eq_zero_iff.1 hbl.symm)
  have hwc := g11.cells
  have hwo := g11.one
  have hf := (MW.loc (σ' := upd σ 1 (some (Ob.row 2 [.agg [slV 1 vecV c, w]]))) g11 (by rw [upd_ne (by omega)])).frz hne' 7
  rw [e1, e2, e3]
  simp +contextual -implicitDefEqProofs (maxSteps := 2000000) only [↓wP, wQ, wQ1, wQ2, wQ3, wR, boxE, partsOf, ↓reduceIte, n1w, n2w, n3w, n4w, n5w, n6w, reduceCtorEq, i1w, i2w, i3w, i4w, i5w, g3, g4, g5, g6, g8, g10, hwc, hwo, hf.1]
 ·refine ⟨rfl, rfl, by rw [hK]; rfl, rfl, by omega, ?_, rfl, .ref 2 0 (lst c).length 2, ?_, ?_⟩
  ·rw [upd_ne (by omega)]; exact m1
  ·rw [hK, upd_self]
  ·refine .inr ⟨by rw [bM_len], ?_⟩
   rw [upd_ne (by omega), m2]
   show _ = some (Ob.row 2 (((List.replicate (lst c).length ((0 : Nat), (0 : Nat)))).map mV))
   rw [List.map_replicate]; rfl
def f7 (a : Option (List Cel)) (c : Option (List Vc)) (ha : SmA a) (hl : (lst c).length ≤ 7) (hv : ∀ v ∈ lst c, Sm v) := callE_tr (by decide) (r7 a c ha hl hv) (by simp [Tr, Tr_slV]) (by simp [Nw, Nw_slV])
end Go.Q.SD
end

section
/- Are these the same hits? -/
namespace Go.Q.SD
open Go.Q Go.Sort
theorem r34 (a b : Option (List Hit)) (hl : (lst a).length < 9223372036854775808) : res T 34 [slV 2 hitV a, slV 2 hitV b] = some (.bool (decide (lst a = lst b))) := by
 refine run_res (run_pure (fn := g34) rfl rfl (by decide) ?_)
 simp only [g34, b34, zO, zN, zM, zL, zG, zP, zQ, zI, zA, zT, zF, zB, zC, zD, zE, zH, zJ, zK]
 by_cases hlen : (lst a).length = (lst b).length
 ·have hd : (((lst a).length : Int) != ((lst b).length : Int)) = false := by simp [hlen]
  simp +contextual -implicitDefEqProofs (maxSteps := 2000000) only [↓wP, wS, seval, hd]
  refine WC_for (lst a).length 0 (fun (j : Nat) env σ n => env 0 = slV 2 hitV a ∧ env 1 = slV 2 hitV b ∧ (lst a).take j = (lst b).take j) hl (by decide) (by decide) (fun _ _ => rfl) (fun _ _ _ => rfl) ?_ ?_ _ _ _ rfl rfl ?_
  ·intro j env σ n hj h1 h2 ⟨h3, h4, h5⟩
   simp only [vl_tmp] at h2
   have hx : (lst a)[j]? = some (lst a)[j] := List.getElem?_eq_getElem hj
   have hy : (lst b)[j]? = some (lst b)[j] := List.getElem?_eq_getElem (by omega)
   have ta := (List.take_append_getElem hj).symm
   have tb := (List.take_append_getElem (l := lst b) (i := j) (by omega)).symm
   generalize (lst a)[j] = x at *
   generalize (lst b)[j] = y at *
   by_cases hxy : x = y
   ·have hde : decide ((⟨x.id, x.d⟩ : Hit) = ⟨y.id, y.d⟩) = true := by simp [hxy]
    simp +contextual -implicitDefEqProofs (maxSteps := 2000000) only [↓wP, wS, seval, h1, h2, h3, h4, hx, hy, hitV_eq, eqc_hit, hde, Bool.bne_true]
    rw [ta, tb, h5, hxy]
   ·have hde : decide ((⟨x.id, x.d⟩ : Hit) = ⟨y.id, y.d⟩) = false := decide_eq_false hxy
    have hne : lst a ≠ lst b := by
     intro h
     rw [h] at hx
     exact hxy (Option.some.inj (hx.symm.trans hy))
    simp +contextual -implicitDefEqProofs (maxSteps := 2000000) only [↓wP, wS, seval, h1, h2, h3, h4, hx, hy, hitV_eq, eqc_hit, hde, Bool.bne_true, hne]
  ·intro env σ n ⟨h3, h4, h5⟩ h1 h2
   have heq := take_eq hlen h5
   simp +contextual -implicitDefEqProofs (maxSteps := 2000000) only [↓wP, wS, seval, heq]
  ·simp +contextual -implicitDefEqProofs (maxSteps := 2000000) only [↓wP, wS, seval]
 ·have hd : (((lst a).length : Int) != ((lst b).length : Int)) = true := by simp; omega
  have hne : lst a ≠ lst b := fun h => hlen (by rw [h])
  simp +contextual -implicitDefEqProofs (maxSteps := 2000000) only [↓wP, wS, seval, hd, hne]
theorem r12 (a b : Option (List Hit)) (hl : (lst a).length < 9223372036854775808) : res T 12 [slV 2 hitV a, slV 2 hitV b] = some (.bool (decide (lst a = lst b))) := by
 refine run_res (run_pure (fn := g12) rfl rfl (by decide) ?_)
 simp only [g12, b12, zO, zN, zM, zL, zG, zP, zQ, zI, zA, zT, zF, zB, zC, zD, zE, zH, zJ, zK]
 have h34 := fun fs σ n lk => callE_tr (T := T) (by decide) (r34 a b hl) (by simp [Tr, Tr_slV]) rfl fs σ n lk
 simp +contextual -implicitDefEqProofs (maxSteps := 2000000) only [↓wP, wS, seval, h34]
theorem f12 {σ : Sto} {v w : V} {a b : List Hit} (ha : Hf σ v a) (hb : Hf σ w b) (hl : a.length < 9223372036854775808) (fs : Bool) (n lk : Nat) : callE T fs 12 [v, w] σ n lk = some (.bool (decide (a = b)), σ, n) := by
 obtain ⟨o, rfl, h1⟩ := ha
 obtain ⟨q, rfl, h2⟩ := hb
 have e : [v, w].mapM (frz σ 12) = some [slV 2 hitV o, slV 2 hitV q] := by simp only [List.mapM_cons, List.mapM_nil, h1, h2]; rfl
 rw [callE_flat (by decide) e (r12 o q hl) rfl]; rfl
end Go.Q.SD
end

section
/- What is found by slots is what is found among the rows that are visible. -/
namespace Go.Q.SD
open Go.Q Go.Sort
theorem nb_lt' (v : Vc) (c : List Vc) (h : c ≠ []) : nb v c c.length < c.length := by
 have hp := List.length_pos_iff.2 h
 unfold nb
 rcases bst_spec [] (dis v c) c.length with ⟨h1, h2⟩ | ⟨b, h1, h2, -, -⟩ <;> rw [h1]
 ·simpa using hp
 ·simpa using h2
theorem bM_tb {a : List Cel} {c : List Vc} (hc : c ≠ []) (ha : a.length = 96) : ∀ j, j ≤ 96 → ∀ i (hi : i < c.length) s (hs : s < 96),
 tb ((bM a c j)[i]'(by rw [bM_len]; exact hi)).1 ((bM a c j)[i]'(by rw [bM_len]; exact hi)).2 s = (decide (s < j) && ((a[s]'(by omega)).u && decide (nb (a[s]'(by omega)).v c c.length = i)))
 | 0, _ => fun i hi s hs => by
   have : (bM a c 0)[i]'(by rw [bM_len]; exact hi) = (0, 0) := by simp only [bM, List.getElem_replicate]
   rw [this]; simp [tb]
 | j + 1, hj => fun i hi s hs => by
   have hx : a[j]? = some (a[j]'(by omega)) := List.getElem?_eq_getElem (by omega)
   have hbs := bM_step (c := c) hx
   have ih := bM_tb hc ha j (by omega) i hi s hs
   obtain ⟨x, hxx⟩ : ∃ x, x = a[j]'(by omega) := ⟨_, rfl⟩
   rw [← hxx] at hbs
   have hsj : s = j → a[s]'(by omega) = x := fun h => by subst h; exact hxx.symm
   generalize a[s]'(by omega) = y at *
   cases hu : x.u
   ·rw [hu, if_neg (by decide)] at hbs
    simp only [hbs]
    rw [ih]
    by_cases hs' : s = j
    ·subst hs'; rw [hsj rfl, hu]; simp
    ·have : decide (s < j + 1) = decide (s < j) := decide_eq_decide.2 (by omega)
     rw [this]
   ·rw [hu, if_pos rfl] at hbs
    have hg : (bM a c (j + 1))[i]'(by rw [bM_len]; exact hi) = put1 (nb x.v c c.length) j i ((bM a c j)[i]'(by rw [bM_len]; exact hi)) := by
     simp only [hbs, putM, List.getElem_mapIdx]
    rw [hg]
    unfold put1
    generalize (bM a c j)[i]'(by rw [bM_len]; exact hi) = m at *
    by_cases hi' : i = nb x.v c c.length
    ·rw [if_pos hi', orM_tb (by omega) s (by omega), ih]
     by_cases hs' : s = j
     ·subst hs'; rw [hsj rfl, hu]; simp [hi']
     ·have : decide (s < j + 1) = decide (s < j) := decide_eq_decide.2 (by omega)
      rw [this, decide_eq_false hs', Bool.or_false]
    ·rw [if_neg hi', ih]
     by_cases hs' : s = j
     ·subst hs'; rw [hsj rfl, hu]; simp; exact fun h => hi' h.symm
     ·have : decide (s < j + 1) = decide (s < j) := decide_eq_decide.2 (by omega)
      rw [this]
theorem slN_eq {m : Nat × Nat} (hm : Mk m) : slN m = (List.range 96).filter fun s => tb m.1 m.2 s := by
 have e1 : bl m.1 = (List.range 64).filter fun s => tb m.1 m.2 s := by
  unfold bl
  apply List.filter_congr
  intro s hs
  rw [List.mem_range] at hs
  unfold tb; rw [if_pos hs]
 have e2 : bl m.2 = (List.range 32).filter fun s => m.2.testBit s := by
  unfold bl
  rw [show (64 : Nat) = 32 + 32 from rfl, List.range_add, List.filter_append]
  have : ((List.range 32).map (32 + ·)).filter (fun s => m.2.testBit s) = [] := by
   rw [List.filter_eq_nil_iff]
   intro s hs
   obtain ⟨x, -, rfl⟩ := List.mem_map.1 hs
   have := Nat.testBit_lt_two_pow (x := m.2) (i := 32 + x) (Nat.lt_of_lt_of_le hm.hi (by
    have : 2 ^ 32 ≤ 2 ^ (32 + x) := Nat.pow_le_pow_right (by omega) (by omega)
    omega))
   rw [this]; decide
  rw [this, List.append_nil]
 unfold slN
 rw [e1, e2, show (96 : Nat) = 64 + 32 from rfl, List.range_add, List.filter_append, List.filter_map]
 have e3 : ((fun s => tb m.1 m.2 s) ∘ fun x => 64 + x) = fun s => m.2.testBit s := by
  funext s
  show tb m.1 m.2 (64 + s) = _
  unfold tb; rw [if_neg (by omega), show 64 + s - 64 = s by omega]
 rw [e3]
theorem sel_at {l : List Cel} {m0 m1 : Nat} {G : Cel → Bool} (h : ∀ s (hs : s < l.length), (l[s].u && tb m0 m1 s) = G l[s]) : ∀ k, k ≤ l.length → sel m0 m1 (l.take k) = ((l.take k).filter G).map rowC
 | 0, _ => by simp [sel]
 | k + 1, hk => by
   rw [← List.take_append_getElem (show k < l.length by omega), sel_snoc, List.length_take, Nat.min_eq_left (by omega), h k (by omega), sel_at h k (by omega), List.filter_append, List.map_append]
   congr 1
   cases hg : G l[k] <;> simp [hg, rowC]
theorem row_at {l : List Cel} {P : Nat → Bool} {G : Cel → Bool} (h : ∀ s (hs : s < l.length), P s = G l[s]) : ∀ k, k ≤ l.length → ((List.range k).filter P).filterMap (rowAt' l) = ((l.take k).filter G).map rowC
 | 0, _ => by simp
 | k + 1, hk => by
   rw [← List.take_append_getElem (show k < l.length by omega), List.range_succ, List.filter_append, List.filterMap_append, row_at h k (by omega), List.filter_append, List.map_append]
   congr 1
   have hx : l[k]? = some l[k] := List.getElem?_eq_getElem (by omega)
   have := h k (by omega)
   cases hg : G l[k] <;> rw [hg] at this <;> simp [hg, this, rowC, rowAt', hx]
end Go.Q.SD
end

section
/- What is found by slots is what is found among the rows that are visible. -/
namespace Go.Q.SD
open Go.Q Go.Sort
theorem sr_no {a : Option (List Cel)} {c : Option (List Vc)} {ms : List (Nat × Nat)} {q : Vc} {k t m : Int} (h : srE a c ms q k t m ≠ 0) : srL a c ms q k t m = [] := by
 unfold srE at h
 unfold srL
 split
 ·rfl
 rename_i h1
 rw [if_neg h1] at h
 split
 ·rfl
 rename_i h2
 rw [if_neg h2] at h
 split
 ·rfl
 rename_i h3
 rw [if_neg h3] at h
 split
 ·rfl
 rename_i h4
 rw [if_neg h4] at h
 unfold scanE at h
 unfold scanL
 split
 ·rfl
 rename_i h5
 rw [if_neg h5, if_neg h3] at h
 unfold itE at h
 unfold itL
 split
 ·rename_i h6; rw [if_pos h6] at h; exact absurd rfl h
 ·rfl
theorem vis_tb {a : Option (List Cel)} (t : Int) (h : okA a = true) {s : Nat} (hs : s < (lst a).length) : tb (visM t a).1 (visM t a).2 s = seenC t (lst a)[s] := by
 have hl : (lst a).length = 96 := by simp only [okA, Bool.and_eq_true, decide_eq_true_eq] at h; exact h.1
 have := (mskL_ok t (lst a) 96 (by omega) (by omega)).2 s (by omega)
 rw [← hl, List.take_length] at this
 unfold visM
 rw [if_pos h, this, List.getElem?_eq_getElem hs]
 simp [hs]
theorem seenR_eq {a : Option (List Cel)} (t : Int) (h : okA a = true) : seenR t a = ((lst a).filter (seenC t)).map rowC := by
 have hl : (lst a).length = 96 := by simp only [okA, Bool.and_eq_true, decide_eq_true_eq] at h; exact h.1
 unfold seenR
 rw [slN_eq (vis_mk t h), ← hl]
 have := row_at (l := lst a) (P := fun s => tb (visM t a).1 (visM t a).2 s) (G := seenC t) (fun s hs => vis_tb t h hs) (lst a).length (Nat.le_refl _)
 rw [List.take_length] at this
 exact this
theorem agree {a : Option (List Cel)} {c : Option (List Vc)} {q : Vc} {k t m : Int} (hE : bE a c = 0) (hs : srE a (bL a c) (bK a c) q k t m = 0) :
 okA a = true ∧ bL a c = c ∧ pE (seenR t a) c q k m = 0 ∧ srL a (bL a c) (bK a c) q k t m = pL (seenR t a) c q k m := by
 have h1 : chkE q k m = 0 := by
  unfold srE at hs; split at hs
  ·contradiction
  ·rename_i h; simpa using h
 have h2 : okLs (bL a c) (bK a c) = true := by
  unfold srE at hs; rw [if_neg (by simpa using h1)] at hs; split at hs
  ·cases hs
  ·rename_i h; simpa using h
 have h3 : okA a = true := by
  unfold srE at hs; rw [if_neg (by simpa using h1), if_neg (by simp [h2])] at hs; split at hs
  ·cases hs
  ·rename_i h; simpa using h
 have h4 : nrE (bL a c) q m = 0 := by
  unfold srE at hs; rw [if_neg (by simpa using h1), if_neg (by simp [h2]), if_neg (by simp [h3])] at hs; split at hs
  ·contradiction
  ·rename_i h; simpa using h
 obtain ⟨q1, q2, q3, q4, q5⟩ := chk0 h1
 have h5 : cnE (bL a c) q = 0 := by
  unfold nrE at h4
  split at h4
  ·contradiction
  ·first | exact h4 | (rw [if_pos q2] at h4; exact h4)
 have h6 : trE (bL a c) = 0 := by
  unfold cnE at h5; split at h5
  ·contradiction
  ·rename_i h; simpa using h
 have h7 : lst (bL a c) ≠ [] := by
  intro h; unfold trE at h6; rw [if_pos h] at h6; cases h6
 have hne : lst c ≠ [] := by
  intro h
  apply h7
  unfold bL; rw [if_pos hE, if_pos h]; rfl
 have hL : bL a c = c := by unfold bL; rw [if_pos hE, if_neg hne]
 have hK : bK a c = bM (lst a) (lst c) 96 := by unfold bK; rw [if_pos hE, if_neg hne]
 rw [hL] at h2 h5 h6 hs ⊢
 rw [hK] at h2 hs ⊢
 have hl : (lst a).length = 96 := by simp only [okA, Bool.and_eq_true, decide_eq_true_eq] at h3; exact h3.1
 have hcel : ∀ x ∈ lst a, okCel x = true := by
  have := h3; simp only [okA, Bool.and_eq_true, List.all_eq_true] at this; exact this.2
 have hdim : ∀ x ∈ lst a, x.u = true → (lst x.v).length = dm c := by
  intro x hx hu
  unfold bE at hE
  rw [if_neg (by simp [h3])] at hE
  split at hE
  ·cases hE
  split at hE
  ·rename_i h
   have := List.all_eq_true.1 h x hx
   simpa [hu] using this
  ·cases hE
 have hdq : dm c = (lst q).length := by
  unfold cnE at h5
  rw [if_neg (by simpa using h6)] at h5
  split at h5
  ·rename_i h; exact h
  ·cases h5
 have hmsk : mskU (bM (lst a) (lst c) 96) (bM (lst a) (lst c) 96).length = true := by
  unfold okLs at h2; simp only [Bool.and_eq_true] at h2; exact h2.2.2
 have hbl := bM_len (lst a) (lst c) 96
 have hix : ∀ i ∈ ixN q (lst c) m, i < (bM (lst a) (lst c) 96).length := fun i hi => by rw [hbl]; exact ixN_lt i hi
 have hix' : ∀ i : Nat, i ∈ ixN q (lst c) m ↔ (i : Int) ∈ near q (lst c) m := by
  intro i
  unfold ixN
  rw [List.mem_map]
  constructor
  ·rintro ⟨x, hx, rfl⟩
   rw [Int.toNat_of_nonneg (near_pos x hx).1]; exact hx
  ·intro h; exact ⟨i, h, by simp⟩
 have hG : ∀ s (hs : s < (lst a).length), ((lst a)[s].u && tb (scnM (bM (lst a) (lst c) 96) (ixN q (lst c) m) (visM t a)).1 (scnM (bM (lst a) (lst c) 96) (ixN q (lst c) m) (visM t a)).2 s)
  = (decide (((nb (rowC (lst a)[s]).v (lst c) (lst c).length : Nat) : Int) ∈ near q (lst c) m) && seenC t (lst a)[s]) := by
  intro s hs
  rw [scn_tb hmsk (by omega) hix, vis_tb t h3 hs]
  cases hu : (lst a)[s].u
  ·have : seenC t (lst a)[s] = false := by unfold seenC; rw [hu]; rfl
   rw [this]; simp
  ·have hn := nb_lt' (lst a)[s].v (lst c) hne
   have htb := bM_tb hne hl 96 (Nat.le_refl _) (nb (lst a)[s].v (lst c) (lst c).length) hn s (by omega)
   rw [hu, decide_eq_true (show s < 96 by omega), decide_eq_true rfl] at htb
   have hw := whr_eq hmsk (s := s) (i := nb (lst a)[s].v (lst c) (lst c).length) (by rw [hbl]; exact hn) (by omega) (by rw [htb]; rfl)
   rw [hw, Bool.true_and]
   congr 1
   rw [decide_eq_decide]
   show _ ↔ ((nb (lst a)[s].v (lst c) (lst c).length : Nat) : Int) ∈ _
   rw [← hix']
   constructor
   ·rintro ⟨i, hi, he⟩
    have : nb (lst a)[s].v (lst c) (lst c).length = i := by omega
    rw [this]; exact hi
   ·intro h; exact ⟨_, h, rfl⟩
 have hsel := sel_at (G := fun x => decide (((nb (rowC x).v (lst c) (lst c).length : Nat) : Int) ∈ near q (lst c) m) && seenC t x) hG (lst a).length (Nat.le_refl _)
 rw [List.take_length] at hsel
 have hR := seenR_eq t h3
 have hmem : ∀ r ∈ seenR t a, okV r.v = true ∧ (lst r.v).length = dm c := by
  intro r hr
  rw [hR] at hr
  obtain ⟨x, hx, rfl⟩ := List.mem_map.1 hr
  obtain ⟨hx, hsx⟩ := List.mem_filter.1 hx
  have hu : x.u = true := by unfold seenC at hsx; simp only [Bool.and_eq_true] at hsx; exact hsx.1
  refine ⟨?_, hdim x hx hu⟩
  have := hcel x hx
  simp only [okCel, hu, if_true, okVer, Bool.and_eq_true] at this
  exact this.2
 have hsN : sel (scnM (bM (lst a) (lst c) 96) (ixN q (lst c) m) (visM t a)).1 (scnM (bM (lst a) (lst c) 96) (ixN q (lst c) m) (visM t a)).2 (lst a) = selN q (lst c) m (seenR t a) := by
  rw [hsel, hR]
  unfold selN
  rw [List.filter_map, List.filter_filter]
  rfl
 have hp : pE (seenR t a) c q k m = 0 := by
  unfold pE
  rw [if_neg (by simpa using h1), if_neg (by simpa using h6), if_neg, if_neg]
  ·rintro (h | h)
   ·exact h hdq
   ·obtain ⟨r, hr, h⟩ := List.any_eq_true.1 h
    have := (hmem r hr).2
    simp only [bne_iff_ne, ne_eq] at h
    omega
  ·intro h
   obtain ⟨r, hr, h⟩ := List.any_eq_true.1 h
   rw [(hmem r hr).1] at h; cases h
 refine ⟨h3, rfl, hp, ?_⟩
 unfold srL pL
 rw [if_neg (by simpa using h1), if_neg (by simp [h2]), if_neg (by simp [h3]), if_neg (by rw [hL] at h4; simpa using h4), if_pos hp]
 unfold scanL
 rw [if_neg (by simpa using q1), if_neg (by simp [h3]), hsN]
 unfold itL
 rw [if_pos]
 rw [List.all_eq_true]
 intro r hr
 unfold selN at hr
 have := (hmem r (List.mem_filter.1 hr).1).2
 unfold sameD
 simp; omega
end Go.Q.SD
end

section
/- ProbeAgrees. -/
namespace Go.Q.SD
open Go.Q Go.Sort
theorem f9 (a : Option (List Cel)) (c : Option (List Vc)) (ms : Option (List (Nat × Nat))) (q : Vc) (k t m : Int) (ha : SmA a) (hl : (lst c).length ≤ 7) (hv : ∀ v ∈ lst c, Sm v) (hml : (lst ms).length ≤ 7) (hm : ∀ m ∈ lst ms, WM m) (hq : Sm q) (fs : Bool) (σ : Sto) (n lk : Nat) :
 callE T fs 9 [.agg [slV 5 celV a], .agg [slV 1 vecV c, slV 2 mV ms], .agg [slV 1 i32V q, .int .i64 k, .int .u64 t, .int .i64 m]] σ n lk = some (.tup [slV 2 hitV (optH (srL a c (lst ms) q k t m)), .int .i64 (srE a c (lst ms) q k t m)], σ, n) :=
 callE_tr (by decide) (r9 a c ms q k t m ha hl hv hml hm hq) (by simp [Tr, Tr_slV]) (Nw_tup2 (Nw_slV 2 hitV _ 10) rfl) fs σ n lk
theorem f10 (a : Option (List Cel)) (t : Int) (ha : SmA a) (hA : okA a = true) (fs : Bool) (σ : Sto) (n lk : Nat) :
 callE T fs 10 [.agg [slV 5 celV a], .int .u64 t] σ n lk = some (.tup [slV 2 rwV (oL (seenR t a)), .bool true], σ, n) :=
 callE_tr (by decide) (r10 a t ha hA) (by simp [Tr, Tr_slV]) (Nw_tup2 (Nw_slV 2 rwV _ 10) rfl) fs σ n lk
theorem t11 (o : Option (List Rw)) (c : Option (List Vc)) (q : Vc) (k ts m : Int) (hl : (lst o).length ≤ 300) (hv : ∀ r ∈ lst o, Sm r.v) (hcl : (lst c).length ≤ 7) (hcv : ∀ v ∈ lst c, Sm v) (hq : Sm q) (fs : Bool) (σ : Sto) (n lk : Nat) :
 callE T fs 11 [slV 2 rwV o, slV 1 vecV c, .agg [slV 1 i32V q, .int .i64 k, .int .u64 ts, .int .i64 m]] σ n lk = some (.tup [hVal n (pL (lst o) c q k m), .int .i64 (pE (lst o) c q k m)], hSto σ n (pL (lst o) c q k m), hN n (pL (lst o) c q k m)) := by
 rw [callE_thaw (by decide) (r11 o c q k ts m hl hv hcl hcv hq) (by simp [Tr, Tr_slV]), thaw_hTup]
theorem cutA_sm (a : Option (List Cel)) : SmA (cutA a) := by
 unfold cutA
 refine ⟨by rw [lst_oL, List.length_map, List.length_take]; omega, fun c hc => ?_⟩
 rw [lst_oL] at hc
 obtain ⟨x, -, rfl⟩ := List.mem_map.1 hc
 show (lst (oL ((lst x.v).take 5))).length < _
 rw [lst_oL, List.length_take]; omega
theorem bK_wm (a : Option (List Cel)) (c : Option (List Vc)) : ∀ m ∈ bK a c, WM m := by
 intro m hm
 unfold bK at hm
 split at hm
 ·split at hm
  ·cases hm
  ·have := bM_mk _ _ 96 (Nat.le_refl _) m hm
   exact ⟨this.lo, this.w⟩
 ·cases hm
theorem bK_len (a : Option (List Cel)) (c : Option (List Vc)) : (bK a c).length ≤ (lst c).length := by
 unfold bK
 split
 ·split
  ·simp
  ·rw [bM_len]; exact Nat.le_refl _
 ·simp
theorem bL_in (a : Option (List Cel)) (c : Option (List Vc)) : bL a c = c ∨ bL a c = none := by
 unfold bL
 split
 ·split
  ·exact .inr rfl
  ·exact .inl rfl
 ·exact .inr rfl
theorem hVal_Hf {σ : Sto} {n : Nat} {l : List Hit} (h : l ≠ [] → σ n = some (.row 2 (hs l))) : Hf σ (hVal n l) l := ⟨optH l, lst_optH l, hVal_frz h 9⟩
theorem hSto_row {σ : Sto} {n : Nat} {l : List Hit} (h : l ≠ []) : hSto σ n l n = some (.row 2 (hs l)) := by unfold hSto; rw [if_neg h, upd_self]
theorem r3 (x : Option (List Cel)) (y : Option (List Vc)) (q0 : Vc) (k t m : Int) (hx : (lst x).length < 4611686018427387904) (hy : (lst y).length < 4611686018427387904) (hxv : ∀ r ∈ lst x, Sm r.v) (hyv : ∀ v ∈ lst y, Sm v) (hq0 : Sm q0) : res T 3 [.agg [slV 5 celV x], slV 1 vecV y, .agg [slV 1 i32V q0, .int .i64 k, .int .u64 t, .int .i64 m]] = some (.bool true) := by
 refine run_res (run_pure (fn := g3) rfl rfl (by decide) ?_)
 simp only [g3, b3, zO, zN, zM, zL, zG, zP, zQ, zI, zA, zT, zF, zB, zC, zD, zE, zH, zJ, zK]
 have c5 := f5 x hx hxv
 have c6 := f6 q0 k t m hq0
 have c8 := f8 y hy hyv
 obtain ⟨a, ha⟩ : ∃ a, a = cutA x := ⟨_, rfl⟩
 obtain ⟨c, hc⟩ : ∃ c, c = cutV y := ⟨_, rfl⟩
 obtain ⟨q, hq⟩ : ∃ q, q = cut q0 := ⟨_, rfl⟩
 have has : SmA a := by rw [ha]; exact cutA_sm x
 have hcl : (lst c).length ≤ 7 := by rw [hc]; exact cutV_len y
 have hcv : ∀ v ∈ lst c, Sm v := by rw [hc]; exact cutV_sm y
 have hqs : Sm q := by rw [hq]; exact cut_sm q0
 rw [← ha] at c5
 rw [← hc] at c8
 rw [← hq] at c6
 have c7 := f7 a c has hcl hcv
 obtain ⟨σ1, hσ1⟩ : ∃ σ1, σ1 = upd (upd Sto.empty 0 (some (.row 1 [.agg [slV 5 celV x]]))) 1 (some (.row 4 [.agg [slV 1 i32V q0, .int .i64 k, .int .u64 t, .int .i64 m]])) := ⟨_, rfl⟩
 have s0 : σ1 0 = some (.row 1 [.agg [slV 5 celV x]]) := by rw [hσ1]; simp [upd]
 have s1 : σ1 1 = some (.row 4 [.agg [slV 1 i32V q0, .int .i64 k, .int .u64 t, .int .i64 m]]) := by rw [hσ1]; simp [upd]
 have hBp := big_le
 have x0 : ∀ hid, hide σ1 2 2 hid 0 = σ1 0 := fun hid => hide_low _ _ _ _ (by omega) (Nat.le_refl _)
 have x1 : ∀ hid, hide σ1 2 2 hid 1 = σ1 1 := fun hid => hide_low _ _ _ _ (by omega) (Nat.le_refl _)
 have x2 : (3 ≤ 2 + BIG) = True := by simp; omega
 have x3 : ∀ b : Sto, merge σ1 b 2 2 = b 2 := fun b => merge_in _ _ _ (Nat.le_refl _) (by omega)
 have x4 : ∀ b : Sto, merge σ1 b 2 1 = σ1 1 := fun b => merge_low _ _ _ (by omega)
 obtain ⟨σ2, hσ2⟩ : ∃ σ2, σ2 = upd (upd (merge σ1 (upd σ1 2 (some (Ob.row 1 [.agg [.nilS]]))) 2) 2 (some (Ob.row 1 [.agg [slV 5 celV a]]))) 1 (some (Ob.row 4 [.agg [slV 1 i32V q, .int .i64 k, .int .u64 t, .int .i64 m]])) := ⟨_, rfl⟩
 have u1 : σ2 1 = some (Ob.row 4 [.agg [slV 1 i32V q, .int .i64 k, .int .u64 t, .int .i64 m]]) := by rw [hσ2]; simp [upd]
 have u2 : σ2 2 = some (Ob.row 1 [.agg [slV 5 celV a]]) := by rw [hσ2]; simp [upd]
 have y1 : ∀ hid, hide σ2 (2 + BIG * 1) (2 + BIG * 1) hid 1 = σ2 1 := fun hid => hide_low _ _ _ _ (by omega) (Nat.le_refl _)
 have y2 : ∀ hid, hide σ2 (2 + BIG * 1) (2 + BIG * 1) hid 2 = σ2 2 := fun hid => hide_low _ _ _ _ (by omega) (Nat.le_refl _)
 have y3 : (2 + (BIG * 1 + 1) ≤ 2 + (BIG * 1 + BIG)) = True := by simp; omega
 have y4 : ∀ b : Sto, merge σ2 b (2 + BIG * 1) (2 + BIG * 1) = b (2 + BIG * 1) := fun b => merge_in _ _ _ (Nat.le_refl _) (by omega)
 have y5 : ∀ b : Sto, merge σ2 b (2 + BIG * 1) 1 = σ2 1 := fun b => merge_low _ _ _ (by omega)
 have y6 : ∀ b : Sto, merge σ2 b (2 + BIG * 1) 2 = σ2 2 := fun b => merge_low _ _ _ (by omega)
 obtain ⟨L, hL⟩ : ∃ L, L = bL a c := ⟨_, rfl⟩
 obtain ⟨K, hK⟩ : ∃ K, K = bK a c := ⟨_, rfl⟩
 have hLl : (lst L).length ≤ 7 ∧ ∀ v ∈ lst L, Sm v := by
  rw [hL]
  rcases bL_in a c with h | h <;> rw [h]
  ·exact ⟨hcl, hcv⟩
  ·exact ⟨by simp [lst], by simp [lst]⟩
 have hKl : (lst (oL K)).length ≤ 7 := by rw [lst_oL, hK]; have := bK_len a c; omega
 have hKw : ∀ m ∈ lst (oL K), WM m := by rw [lst_oL, hK]; exact bK_wm a c
 have c9 := f9 a L (oL K) q k t m has hLl.1 hLl.2 hKl hKw hqs
 rw [lst_oL] at c9
 rw [← hL, ← hK] at c7
 obtain ⟨σ3, hσ3⟩ : ∃ σ3, σ3 = upd (merge σ2 (upd σ2 (2 + BIG * 1) (some (Ob.row 2 [.agg [.nilS, .nilS]]))) (2 + BIG * 1)) (2 + BIG * 1) (some (Ob.row 2 [.agg [slV 1 vecV L, slV 2 mV (oL K)]])) := ⟨_, rfl⟩
 have v1 : σ3 1 = some (Ob.row 4 [.agg [slV 1 i32V q, .int .i64 k, .int .u64 t, .int .i64 m]]) := by rw [hσ3, upd_ne (by omega), y5, u1]
 have v2 : σ3 2 = some (Ob.row 1 [.agg [slV 5 celV a]]) := by rw [hσ3, upd_ne (by omega), y6, u2]
 have v3 : σ3 (2 + BIG * 1) = some (Ob.row 2 [.agg [slV 1 vecV L, slV 2 mV (oL K)]]) := by rw [hσ3, upd_self]
 by_cases hE : bE a c = 0
 rotate_left
 ·have hd : (bE a c != 0) = true := by simpa using hE
  simp +contextual -implicitDefEqProofs (maxSteps := 2000000) only [↓wP, wS, seval, f4, c5, c6, c7, c8, ← hσ1, s0, s1, x0, x1, x2, x3, x4, ← hσ2, u1, u2, y1, y2, y3, y4, y5, y6, hd]
 rw [hE] at c7
 by_cases hS : srE a L K q k t m = 0
 rotate_left
 ·have hd : (srE a L K q k t m != 0) = true := by simpa using hS
  have hn := sr_no hS
  have hl0 : ((lst (optH (srL a L K q k t m))).length : Int) = 0 := by rw [hn]; rfl
  simp +contextual -implicitDefEqProofs (maxSteps := 2000000) only [↓wP, wS, seval, f4, c5, c6, c7, c8, ← hσ1, s0, s1, x0, x1, x2, x3, x4, ← hσ2, u1, u2, y1, y2, y3, y4, y5, y6, ← hσ3, v1, v2, v3, c9, hd, hl0, BEq.rfl]
 obtain ⟨hA, hLc, hp, hag⟩ := agree hE (by rw [← hL, ← hK]; exact hS)
 have c10 := f10 a t has hA
 rw [← hL, ← hK] at hag
 rw [← hL] at hLc
 rw [hS, hag] at c9
 have hRl : (lst (oL (seenR t a))).length ≤ 300 := by
  rw [lst_oL, seenR_eq t hA, List.length_map]
  have := List.length_filter_le (seenC t) (lst a)
  have hl : (lst a).length = 96 := by simp only [okA, Bool.and_eq_true, decide_eq_true_eq] at hA; exact hA.1
  omega
 have hRv : ∀ r ∈ lst (oL (seenR t a)), Sm r.v := by
  rw [lst_oL, seenR_eq t hA]
  intro r hr
  obtain ⟨x, hx, rfl⟩ := List.mem_map.1 hr
  exact has.2 x (List.mem_filter.1 hx).1
 have c11 := t11 (oL (seenR t a)) c q k t m hRl hRv hcl hcv hqs
 rw [lst_oL, hp] at c11
 rw [lst_oL] at hRl
 have hll : (pL (seenR t a) c q k m).length ≤ 300 := by
  unfold pL
  rw [if_pos hp, fst_len, List.length_map]
  have := selN_len q (lst c) m (seenR t a)
  omega
 subst hLc
 generalize pL (seenR t a) L q k m = R at *
 have c12 : ∀ lk, callE T true 12 [slV 2 hitV (optH R), hVal (2 + (BIG * 1 + BIG * 1)) R] (hSto σ3 (2 + (BIG * 1 + BIG * 1)) R) (hN (2 + (BIG * 1 + BIG * 1)) R) lk = some (.bool true, hSto σ3 (2 + (BIG * 1 + BIG * 1)) R, hN (2 + (BIG * 1 + BIG * 1)) R) := fun lk => by
  have h1 := Hf.tree (hSto σ3 (2 + (BIG * 1 + BIG * 1)) R) (optH R)
  rw [lst_optH] at h1
  have := f12 h1 (hVal_Hf (σ := hSto σ3 (2 + (BIG * 1 + BIG * 1)) R) (n := 2 + (BIG * 1 + BIG * 1)) (l := R) (fun h => hSto_row h)) (by omega) true (hN (2 + (BIG * 1 + BIG * 1)) R) lk
  rw [this]; simp
 simp +contextual -implicitDefEqProofs (maxSteps := 2000000) only [↓wP, wS, seval, f4, c5, c6, c7, c8, ← hσ1, s0, s1, x0, x1, x2, x3, x4, ← hσ2, u1, u2, y1, y2, y3, y4, y5, y6, ← hσ3, v1, v2, v3, c9, c10, c11, c12, bne_self_eq_false, BEq.rfl]
end Go.Q.SD
end

section
/- The arguments of seat 14's statements, as trees. -/
set_option maxRecDepth 20000
namespace Go.Q.SD
open Go.Q Go.Proofs
def eI32 : Enc Tryz.prog 21 Int := Enc.int .i32 Tryz.underlying21
def eInt : Enc Tryz.prog 3 Int := Enc.int .i64 Tryz.underlying3
def eU64 : Enc Tryz.prog 29 Int := Enc.int .u64 Tryz.underlying29
def eVec : Enc Tryz.prog 26 (Option (List Int)) := Enc.slice eI32 Tryz.underlying26 1 (by kernel_rfl) (by decide) 4 (by kernel_rfl)
theorem okVec {o : Option (List Int)} (h : eVec.ok o) : (lst o).length < 4611686018427387904 := by
 cases o with
 | none => simp [lst]
 | some l =>
   obtain ⟨h1, h2, h3⟩ := h l rfl
   rw [reach_eq] at h2
   rw [lst_some]
   omega
def eVecs : Enc Tryz.prog 25 (Option (List (Option (List Int)))) := Enc.slice eVec Tryz.underlying25 1 (by kernel_rfl) (by decide) 24 (by kernel_rfl)
theorem okVecs {o : Option (List (Option (List Int)))} (h : eVecs.ok o) : (lst o).length < 4611686018427387904 ∧ ∀ v ∈ lst o, Sm v := by
 cases o with
 | none => exact ⟨by simp [lst], by simp [lst]⟩
 | some l =>
   obtain ⟨h1, h2, h3⟩ := h l rfl
   rw [reach_eq] at h2
   refine ⟨by rw [lst_some]; omega, fun c hc => ?_⟩
   have := okVec (h3 c hc)
   unfold Sm
   omega
def eBool : Enc Tryz.prog 4 Bool := Enc.bool Tryz.underlying4
def eVer : Enc Tryz.prog 59 (Int × Int × Option (List Int)) := Enc.map
 (Enc.struct (EncF.cons (off := 0) (sz := 1) eU64 rfl (by kernel_rfl) (EncF.cons (sz := 1) eU64 rfl (by kernel_rfl) (EncF.cons (sz := 1) eVec rfl (by kernel_rfl) EncF.nil))) Tryz.underlying59 (by kernel_rfl))
 (fun x => (x.1, x.2.1, x.2.2.1)) (fun x => .agg [.int .u64 x.1, .int .u64 x.2.1, slV 1 i32V x.2.2]) (fun x => Sm x.2.2)
 (fun a _ => by
  obtain ⟨b, e, v, u⟩ := a
  cases v <;> rfl)
 (fun a h => by have := okVec h.2.2.1; unfold Sm; dsimp only at this ⊢; omega)
def eCel : Enc Tryz.prog 61 Cel := Enc.map
 (Enc.struct (EncF.cons (off := 0) (sz := 1) eBool rfl (by kernel_rfl) (EncF.cons (sz := 1) eU64 rfl (by kernel_rfl) (EncF.cons (sz := 3) eVer rfl (by kernel_rfl) EncF.nil))) Tryz.underlying61 (by kernel_rfl))
 (fun x => ⟨x.1, x.2.1, x.2.2.1.1, x.2.2.1.2.1, x.2.2.1.2.2⟩) celV (fun c => Sm c.v)
 (fun a _ => by
  obtain ⟨b, e, ⟨x, y, v⟩, u⟩ := a
  rfl)
 (fun a h => h.2.2.1)
def eCels : Enc Tryz.prog 22 (Option (List Cel)) := Enc.slice eCel Tryz.underlying22 5 (by kernel_rfl) (by decide) 56 (by kernel_rfl)
theorem okCels {o : Option (List Cel)} (h : eCels.ok o) : (lst o).length < 4611686018427387904 ∧ ∀ c ∈ lst o, Sm c.v := by
 cases o with
 | none => exact ⟨by simp [lst], by simp [lst]⟩
 | some l =>
   obtain ⟨h1, h2, h3⟩ := h l rfl
   rw [reach_eq] at h2
   exact ⟨by rw [lst_some]; omega, fun c hc => h3 c hc⟩
def eArena : Enc Tryz.prog 24 (Option (List Cel)) := Enc.map
 (Enc.struct (EncF.cons (off := 0) (sz := 1) eCels rfl (by kernel_rfl) EncF.nil) Tryz.underlying24 (by kernel_rfl))
 (fun x => x.1) (fun a => .agg [slV 5 celV a]) (fun a => (lst a).length < 4611686018427387904 ∧ ∀ c ∈ lst a, Sm c.v) (fun a _ => by obtain ⟨a, u⟩ := a; cases a <;> rfl) (fun a h => okCels h.1)
def eQry : Enc Tryz.prog 28 (Option (List Int) × Int) := Enc.map
 (Enc.struct (EncF.cons (off := 0) (sz := 1) eVec rfl (by kernel_rfl) (EncF.cons (sz := 1) eInt rfl (by kernel_rfl) EncF.nil)) Tryz.underlying28 (by kernel_rfl))
 (fun x => (x.1, x.2.1)) (fun x => .agg [slV 1 i32V x.1, .int .i64 x.2]) (fun x => Sm x.1) (fun a _ => by obtain ⟨a, b, u⟩ := a; cases a <;> rfl) (fun a h => by have := okVec h.1; unfold Sm; dsimp only at this ⊢; omega)
structure Pb where
 q : Vc
 k : Int
 t : Int
 n : Int
def pbV (p : Pb) : V := .agg [slV 1 i32V p.q, .int .i64 p.k, .int .u64 p.t, .int .i64 p.n]
def ePrb : Enc Tryz.prog 31 Pb := Enc.map
 (Enc.struct (EncF.cons (off := 0) (sz := 2) eQry rfl (by kernel_rfl) (EncF.cons (sz := 1) eU64 rfl (by kernel_rfl) (EncF.cons (sz := 1) eInt rfl (by kernel_rfl) EncF.nil))) Tryz.underlying31 (by kernel_rfl))
 (fun x => ⟨x.1.1, x.1.2, x.2.1, x.2.2.1⟩) pbV (fun x => Sm x.q) (fun a _ => by obtain ⟨⟨a, b⟩, t, n, u⟩ := a; cases a <;> rfl) (fun a h => h.1)
end Go.Q.SD
end

section
/- math/bits.TrailingZeros64, walked. -/
namespace Go.Q.SD
open Go.Proofs Go.Shelf Go.RowKit
set_option maxHeartbeats 1000000 in
theorem tz_core (x k idx : Nat) (w : World) (hx0 : ((x : Int) == 0) = false)
 (key : IntKind.u64.wrap (bits BinOp.and IntKind.u64 (x : Int) (IntKind.u64.wrap (-(x : Int))) * 285870213051353865) / 288230376151711744 = (idx : Int))
 (hi : idx < 64) (hk : k < 64) (hcell : w.cell? ⟨0, idx, none⟩ = some (.int .u8 k)) :
 Calls Tryz.prog 90 #[.int .u64 x] w fun e w' => e = .returned (.int .i64 k) ∧ w' = w := by
 go_enter Tryz.func90, Tryz.ntmps90
 go_wp2_with (simp only [key])
 go_ret
 exact ⟨rfl, rfl⟩
theorem tz_zero (w : World) : Calls Tryz.prog 90 #[.int .u64 0] w fun e w' => e = .returned (.int .i64 64) ∧ w' = w := by
 go_enter Tryz.func90, Tryz.ntmps90
 go_wp2
 go_ret
 exact ⟨rfl, rfl⟩
theorem tz (x : Nat) (hx : x < 18446744073709551616) (w : World) (hT : x ≠ 0 → TabAt 0 Lib.deBruijn64tab w) :
 Calls Tryz.prog 90 #[.int .u64 x] w fun e w' => e = .returned (.int .i64 (Lib.ctz 64 x)) ∧ w' = w := by
 by_cases hx0 : x = 0
 ·subst hx0
  exact tz_zero w
 ·obtain ⟨hlow, hk⟩ := Lib.lowest_bit 64 x hx0 hx
  obtain ⟨hi, htab⟩ := Lib.deBruijn64_at _ hk
  have hcell := hT hx0 _ hi
  rw [htab] at hcell
  exact tz_core x _ _ w (by simp; omega) (tz64_key x _ hx hx0 hlow) hi hk hcell
def gInv (w : World) (X : Nat → Prop) : Prop := ¬ X 0 ∧ (∃ c t f, w.heap[0]? = some (.cells c t f)) ∧ TabAt 0 Lib.deBruijn64tab w
instance glob : Glob where
 inv := gInv
 move := fun h ⟨h1, ⟨c, t, f, h2⟩, h3⟩ => by
  obtain ⟨e1, e2⟩ := h 0 c t f h2 h1
  exact ⟨e2, ⟨c, t, f, by rw [e1]; exact h2⟩, fun j hj => by
   have := h3 j hj
   simp only [World.cell?, e1] at this ⊢
   exact this⟩
theorem tz_says : PrimSays tzP := by
 intro K args σ n lk ha hs v σ' n' h
 unfold tzP at h
 split at h
 ·split at h
  ·simp only [Option.some.injEq, Prod.mk.injEq] at h
   obtain ⟨rfl, rfl, rfl⟩ := h
   letI : Link := ⟨fun _ _ _ => True⟩
   exact ⟨(Ok.int _ _).mono more_sub, hs.mono more_sub, Dom.refl⟩
  ·cases h
 ·cases h
theorem tz_ok : PrimOk Tryz.prog 90 tzP := by
 intro L w X ι σ n lk args us r hp hw hl hr hi
 unfold tzP at hp
 split at hp
 ·rename_i x
  split at hp
  ·rename_i hx
   simp only [Option.some.injEq] at hp
   subst hp
   obtain ⟨h1, h2⟩ := hr
   have hu : us = #[.int .u64 x] := by
    have h3 := h2 0 (.int .u64 x) us[0]! rfl (by rw [Array.getElem?_eq_getElem (by rw [h1]; simp)]; simp [h1])
    have h4 : us[0]! = .int .u64 x := by
     generalize us[0]! = u at h3
     cases h3; rfl
    apply Array.ext
    ·simpa using h1
    ·intro i hi1 hi2
     have : i = 0 := by simp at hi2; omega
     subst this
     have : us[0]! = us[0] := by simp [hi1]
     simpa [this] using h4
   subst hu
   have hxn : x = ((x.toNat : Nat) : Int) := by omega
   have key := tz x.toNat (by omega) w (fun _ => hi.2.2)
   rw [← hxn] at key
   refine key.mono fun e w' ⟨he, hw'⟩ => ?_
   subst hw'
   exact ⟨_, X, ι, he, hw, .int _ _, Ext.refl hw.xlt⟩
  ·cases hp
 ·cases hp
end Go.Q.SD
end
