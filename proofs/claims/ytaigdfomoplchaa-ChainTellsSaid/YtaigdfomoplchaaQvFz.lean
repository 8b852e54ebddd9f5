/- What is frozen stays as it is where nothing that it reaches is touched. -/
import Derived.Test.YtaigdfomoplchaaQvBun
set_option linter.unusedSimpArgs false
set_option linter.unusedVariables false
namespace Go.Q

theorem mapM_congr {f g : V → Option V} : ∀ {cs : List V}, (∀ c ∈ cs, f c = g c) → cs.mapM f = cs.mapM g
  | [], _ => rfl
  | c :: cs, h => by
    rw [List.mapM_cons, List.mapM_cons, h c (by simp), mapM_congr (fun d hd => h d (List.mem_cons_of_mem _ hd))]

theorem flatMap_congr' {f g : V → List Nat} : ∀ {cs : List V}, (∀ c ∈ cs, f c = g c) → cs.flatMap f = cs.flatMap g
  | [], _ => rfl
  | c :: cs, h => by
    rw [List.flatMap_cons, List.flatMap_cons, h c (by simp), flatMap_congr' (fun d hd => h d (List.mem_cons_of_mem _ hd))]

theorem elemM_loc {f g : V → Option V} {x : V} (h : ∀ c ∈ x.cells, f c = g c) : elemM f x = elemM g x := by
  unfold elemM
  split
  · rename_i cs
    rw [mapM_congr (f := f) (g := g) (cs := cs) (fun c hc => h c hc)]
  · rename_i h'
    refine h x ?_
    cases x
    case agg cs => exact absurd rfl (h' cs)
    all_goals exact List.mem_singleton.2 rfl

theorem frz_loc {σ σ' : Sto} : ∀ (k : Nat) (v : V), (∀ id ∈ rch σ k v, σ' id = σ id) → frz σ' k v = frz σ k v ∧ rch σ' k v = rch σ k v
  | 0, _, _ => ⟨rfl, rfl⟩
  | k + 1, v, h => by
    cases v
    case agg cs =>
      simp only [rch, List.mem_flatMap] at h
      have h1 := fun c hc => frz_loc k c (fun id hid => h id ⟨c, hc, hid⟩)
      simp only [frz, rch]
      rw [mapM_congr (fun c hc => (h1 c hc).1), flatMap_congr' (fun c hc => (h1 c hc).2)]
      exact ⟨rfl, rfl⟩
    case tup cs =>
      simp only [rch, List.mem_flatMap] at h
      have h1 := fun c hc => frz_loc k c (fun id hid => h id ⟨c, hc, hid⟩)
      simp only [frz, rch]
      rw [mapM_congr (fun c hc => (h1 c hc).1), flatMap_congr' (fun c hc => (h1 c hc).2)]
      exact ⟨rfl, rfl⟩
    case fn f cs =>
      simp only [rch, List.mem_flatMap] at h
      have h1 := fun c hc => frz_loc k c (fun id hid => h id ⟨c, hc, hid⟩)
      simp only [frz, rch]
      rw [mapM_congr (fun c hc => (h1 c hc).1), flatMap_congr' (fun c hc => (h1 c hc).2)]
      exact ⟨rfl, rfl⟩
    case iface t v =>
      simp only [rch] at h
      have h1 := frz_loc k v h
      simp only [frz, rch, h1.1, h1.2]
      exact ⟨trivial, trivial⟩
    case ref id off len sz =>
      simp only [frz_rf, rch_rf] at h ⊢
      rw [h id (by simp)]
      cases he : elemsO (σ id) sz off len with
      | none => exact ⟨rfl, rfl⟩
      | some xs =>
        simp only [he, Option.getD_some, List.mem_cons, List.mem_flatMap] at h
        have h1 := fun x hx c hc => frz_loc k c (fun i hid => h i (.inr ⟨x, hx, c, hc, hid⟩))
        simp only [Option.bind_some, Option.getD_some]
        constructor
        · rw [mapM_congr (fun x hx => elemM_loc (fun c hc => (h1 x hx c hc).1))]
        · congr 1
          exact flatMap_congr' fun x hx => flatMap_congr' fun c hc => (h1 x hx c hc).2
    case ptr id sz i j =>
      simp only [frz_ptr, rch_ptr] at h ⊢
      rw [h id (by simp)]
      cases he : rowO (σ id) sz i with
      | none => exact ⟨rfl, rfl⟩
      | some e =>
        simp only [he, Option.map_some, Option.getD_some, List.mem_cons, List.mem_flatMap] at h
        have h1 := fun c hc => frz_loc k c (fun i hid => h i (.inr ⟨c, hc, hid⟩))
        simp only [Option.bind_some, Option.map_some, Option.getD_some]
        constructor
        · rw [mapM_congr (fun c hc => (h1 c hc).1)]
        · congr 1
          exact flatMap_congr' fun c hc => (h1 c hc).2
    all_goals exact ⟨rfl, rfl⟩

/-- Frozen, out of objects of a set. -/
def Fz (σ : Sto) (k : Nat) (v t : V) (S : Nat → Prop) : Prop := frz σ k v = some t ∧ ∀ id ∈ rch σ k v, S id
/-- Elements .. -/
def FzE (σ : Sto) (k : Nat) (v t : V) (S : Nat → Prop) : Prop := elemM (frz σ k) v = some t ∧ ∀ c ∈ v.cells, ∀ id ∈ rch σ k c, S id
def FzL (σ : Sto) (k : Nat) (xs ts : List V) (S : Nat → Prop) : Prop := xs.mapM (elemM (frz σ k)) = some ts ∧ ∀ x ∈ xs, ∀ c ∈ x.cells, ∀ id ∈ rch σ k c, S id

section
variable {σ σ' : Sto} {k : Nat} {v t : V} {S S' : Nat → Prop} {xs ts ys us : List V}

theorem Fz.loc (h : Fz σ k v t S) (hs : ∀ id, S id → σ' id = σ id) (hS : ∀ id, S id → S' id) : Fz σ' k v t S' := by
  have h1 := frz_loc (σ := σ) (σ' := σ') k v (fun id hid => hs id (h.2 id hid))
  exact ⟨h1.1.trans h.1, fun id hid => hS id (h.2 id (by rw [← h1.2]; exact hid))⟩
theorem FzE.loc (h : FzE σ k v t S) (hs : ∀ id, S id → σ' id = σ id) (hS : ∀ id, S id → S' id) : FzE σ' k v t S' := by
  have h1 := fun c hc => frz_loc (σ := σ) (σ' := σ') k c (fun id hid => hs id (h.2 c hc id hid))
  exact ⟨(elemM_loc (fun c hc => (h1 c hc).1)).trans h.1, fun c hc id hid => hS id (h.2 c hc id (by rw [← (h1 c hc).2]; exact hid))⟩
theorem FzL.loc (h : FzL σ k xs ts S) (hs : ∀ id, S id → σ' id = σ id) (hS : ∀ id, S id → S' id) : FzL σ' k xs ts S' := by
  have h1 := fun x hx c hc => frz_loc (σ := σ) (σ' := σ') k c (fun id hid => hs id (h.2 x hx c hc id hid))
  exact ⟨(mapM_congr (fun x hx => elemM_loc (fun c hc => (h1 x hx c hc).1))).trans h.1, fun x hx c hc id hid => hS id (h.2 x hx c hc id (by rw [← (h1 x hx c hc).2]; exact hid))⟩

theorem FzL.nil : FzL σ k [] [] S := ⟨rfl, fun x hx => by simp at hx⟩
theorem FzL.append (h : FzL σ k xs ts S) (h' : FzL σ k ys us S) : FzL σ k (xs ++ ys) (ts ++ us) S := by
  refine ⟨?_, fun x hx => ?_⟩
  · rw [List.mapM_append, h.1, h'.1]; rfl
  · rcases List.mem_append.1 hx with hx | hx
    · exact h.2 x hx
    · exact h'.2 x hx
theorem FzL.one (h : FzE σ k v t S) : FzL σ k [v] [t] S := by
  refine ⟨?_, fun x hx => ?_⟩
  · rw [List.mapM_cons, h.1]; rfl
  · rw [List.mem_singleton.1 hx]; exact h.2
theorem FzL.trees (h : ∀ x ∈ xs, Tr k x = true) (h' : ∀ x ∈ xs, ∀ c ∈ x.cells, Tr k c = true) : FzL σ k xs xs S :=
  ⟨mapM_id (fun x hx => elemM_tr (h x hx)), fun x hx c hc id hid => by rw [(frz_tr σ k c (h' x hx c hc)).2] at hid; simp at hid⟩
theorem Fz.tree (h : Tr k v = true) : Fz σ k v v S := ⟨(frz_tr σ k v h).1, fun id hid => by rw [(frz_tr σ k v h).2] at hid; simp at hid⟩
theorem Fz.ref {id sz : Nat} (h : σ id = some (.row sz xs)) (hS : S id) (h' : FzL σ k xs ts S) : Fz σ (k + 1) (.ref id 0 xs.length sz) (.sl sz ts) S := by
  refine ⟨?_, fun i hi => ?_⟩
  · rw [frz_rf, h, elemsO_all, Option.bind_some, h'.1]; rfl
  · rw [rch_rf, h, elemsO_all, Option.getD_some, List.mem_cons, List.mem_flatMap] at hi
    rcases hi with rfl | ⟨x, hx, hi⟩
    · exact hS
    · obtain ⟨c, hc, hi⟩ := List.mem_flatMap.1 hi
      exact h'.2 x hx c hc i hi
/-- An element of several cells. -/
theorem FzE.agg {cs ds : List V} (h : cs.mapM (frz σ k) = some ds) (h' : ∀ c ∈ cs, ∀ id ∈ rch σ k c, S id) : FzE σ k (.agg cs) (.agg ds) S := ⟨by simp [elemM, h], h'⟩
theorem FzE.ofFz (h : Fz σ k v t S) (hc : ∀ cs, v ≠ .agg cs) : FzE σ k v t S := by
  have hcell : v.cells = [v] := by
    cases v
    case agg cs => exact absurd rfl (hc cs)
    all_goals rfl
  refine ⟨?_, fun c hc' => ?_⟩
  · rw [← h.1]
    unfold elemM
    split
    · rename_i cs; exact absurd rfl (hc cs)
    · rfl
  · rw [hcell] at hc'
    rw [List.mem_singleton.1 hc']; exact h.2
end

/-- What is put behind a slice that may be nil. -/
def appO {α : Type} : Option (List α) → List α → Option (List α)
  | none, [] => none
  | none, us => some us
  | some ts, us => some (ts ++ us)
theorem lst_appO {α : Type} (o : Option (List α)) (us : List α) : lst (appO o us) = lst o ++ us := by
  cases o <;> cases us <;> simp [appO, lst]
theorem appO_map {α β : Type} (f : α → β) (o : Option (List α)) (us : List α) : (appO o us).map (List.map f) = appO (o.map (List.map f)) (us.map f) := by
  cases o <;> cases us <;> simp [appO]
theorem slV_map {β : Type} (sz : Nat) (f : β → V) (o : Option (List β)) : slV sz id (o.map (List.map f)) = slV sz f o := by cases o <;> simp [slV]

/-- A slice that is being built: nil, or a row of the store's, whole. -/
def Bld (σ : Sto) (n sz : Nat) (v : V) (o : Option (List V)) : Prop := match o with
  | none => v = .nilS
  | some ts => ∃ i xs, v = .ref i 0 xs.length sz ∧ σ i = some (.row sz xs) ∧ i < n ∧ FzL σ 11 xs ts (fun j => j < n ∧ j ≠ i)

theorem FzL.length {σ : Sto} {k : Nat} {xs ts : List V} {S : Nat → Prop} (h : FzL σ k xs ts S) : ts.length = xs.length := by
  have h1 := h.1
  clear h
  induction xs generalizing ts with
  | nil => cases h1; rfl
  | cons x xs ih =>
    rw [List.mapM_cons] at h1
    cases hx : elemM (frz σ k) x with
    | none => rw [hx] at h1; simp at h1
    | some t =>
      cases hr : xs.mapM (elemM (frz σ k)) with
      | none => rw [hx, hr] at h1; simp at h1
      | some r =>
        rw [hx, hr] at h1
        simp only [Option.bind_eq_bind, Option.bind_some, Option.pure_def, Option.some.injEq] at h1
        subst h1
        simp [ih hr]

section
variable {σ σ' : Sto} {n n' n0 sz : Nat} {v : V} {o : Option (List V)}
theorem Bld.frz (h : Bld σ n sz v o) : frz σ 12 v = some (slV sz id o) := by
  cases o with
  | none => simp only [Bld] at h; subst h; rfl
  | some ts =>
    obtain ⟨i, xs, rfl, h1, h2, h3⟩ := h
    have := Fz.ref (S := fun _ => True) h1 trivial (h3.loc (fun _ _ => rfl) (fun _ _ => trivial))
    simpa [slV] using this.1
theorem Bld.rch (h : Bld σ n sz v o) : ∀ i ∈ rch σ 12 v, i < n := by
  cases o with
  | none => simp only [Bld] at h; subst h; intro i hi; simp [Go.Q.rch] at hi
  | some ts =>
    obtain ⟨i, xs, rfl, h1, h2, h3⟩ := h
    exact (Fz.ref (S := fun j => j < n) h1 h2 (h3.loc (fun _ _ => rfl) (fun _ h => h.1))).2
theorem Bld.loc (h : Bld σ n sz v o) (hs : ∀ i, i < n → σ' i = σ i) (hn : n ≤ n') : Bld σ' n' sz v o := by
  cases o with
  | none => exact h
  | some ts =>
    obtain ⟨i, xs, rfl, h1, h2, h3⟩ := h
    exact ⟨i, xs, rfl, by rw [hs i h2, h1], by omega, h3.loc (fun j hj => hs j hj.1) (fun j hj => ⟨by omega, hj.2⟩)⟩
theorem Bld.lenE (h : Bld σ n sz v o) : lenE v = some (.int .i64 ((lst o).length : Int)) := by
  cases o with
  | none => simp only [Bld] at h; subst h; rfl
  | some ts =>
    obtain ⟨i, xs, rfl, h1, h2, h3⟩ := h
    rw [lenE_ref, lst_some, h3.length]

/-- More is put behind it: rows that were laid since. -/
theorem Bld.append (h : Bld σ n0 sz v o) (hn : n0 ≤ n) {bytes : Nat} {ys us : List V} (hy : FzL σ 11 ys us (fun j => n0 ≤ j ∧ j < n)) (hl : ((lst o).length + us.length) * bytes ≤ LIM) :
    ∃ v' σ' n', appendE sz bytes 0 v (some ys) σ n = some (v', σ', n') ∧ Bld σ' n' sz v' (appO o us) ∧ n ≤ n' ∧ (∀ i, i < n → (∀ off len s, v ≠ .ref i off len s) → σ' i = σ i) := by
  have hlen := hy.length
  cases o with
  | none =>
    simp only [Bld] at h
    subst h
    rw [appendE_nil]
    cases ys with
    | nil =>
      have : us = [] := by simpa using hlen
      subst this
      exact ⟨_, _, _, rfl, rfl, Nat.le_refl _, fun _ _ _ => rfl⟩
    | cons y ys =>
      simp only [lst_none, List.length_nil, Nat.zero_add] at hl
      rw [hlen] at hl
      simp only [List.isEmpty_cons, Bool.false_eq_true, if_false, hl, if_true]
      refine ⟨_, _, _, rfl, ?_, by omega, fun i hi _ => by simp [upd]; omega⟩
      have ho : appO none us = some us := by
        cases us with
        | nil => simp at hlen
        | cons u us => rfl
      rw [ho]
      exact ⟨n, y :: ys, rfl, by simp [upd], by omega, hy.loc (fun j hj => by simp [upd]; omega) (fun j hj => ⟨by omega, by omega⟩)⟩
  | some ts =>
    obtain ⟨i, xs, rfl, h1, h2, h3⟩ := h
    have hx := h3.length
    simp only [lst_some, hx, hlen] at hl
    rw [appendE_ref, h1, appE_row', if_pos ⟨rfl, by omega, hl⟩]
    refine ⟨_, _, _, rfl, ?_, by omega, fun j hj hv => ?_⟩
    · simp only [appO]
      have e1 : xs.length + ys.length = (xs ++ ys).length := by simp
      rw [e1]
      refine ⟨n, xs ++ ys, rfl, by simp [upd], by omega, ?_⟩
      refine FzL.append (h3.loc (fun j hj => ?_) (fun j hj => ⟨by omega, by omega⟩)) (hy.loc (fun j hj => ?_) (fun j hj => ⟨by omega, by omega⟩))
      · have a1 : j ≠ n := by omega
        simp [upd, a1, hj.2]
      · have a1 : j ≠ n := by omega
        have a2 : j ≠ i := by omega
        simp [upd, a1, a2]
    · have a1 : j ≠ n := by omega
      have a2 : j ≠ i := fun h => hv 0 xs.length sz (by rw [h])
      simp [upd, a1, a2]

theorem stepW_app {T : Tab} {σ0 : Sto} (h : Bld σ0 n0 sz v o) (hs : ∀ i, i < n0 → σ i = σ0 i) (hn : n0 ≤ n) {bytes : Nat} {ys us : List V} (hy : FzL σ 11 ys us (fun j => n0 ≤ j ∧ j < n))
    (hl : ((lst o).length + us.length) * bytes ≤ LIM) {d : Option Nat} {ops : List AOp} {env : Nat → V} {lk : Nat} {Q : St → Prop}
    (hnext : ∀ v' σ' n', Bld σ' n' sz v' (appO o us) → n ≤ n' → (∀ i, i < n → (∀ off len s, v ≠ .ref i off len s) → σ' i = σ i) → WR T ops (ptO env d v') σ' n' lk Q) :
    stepW T (appendE sz bytes 0 v (some ys) σ n) d ops env lk Q := by
  obtain ⟨v', σ', n', h1, h2, h3, h4⟩ := (h.loc hs (Nat.le_refl _)).append hn hy hl
  rw [h1, stepW_some]
  exact hnext v' σ' n' h2 h3 h4

theorem mapM_enc {β : Type} (f : β → V) (hf : ∀ x, Tr 1 (f x) = true) (σ : Sto) (k : Nat) (l : List β) : (l.map f).mapM (elemM (frz σ (k + 1))) = some (l.map f) := by
  refine mapM_id fun x hx => ?_
  obtain ⟨b, -, rfl⟩ := List.mem_map.1 hx
  refine elemM_tr ?_
  clear hx
  induction k with
  | zero => exact hf b
  | succ k ih => exact Tr_mono ih
theorem rch_enc {β : Type} (f : β → V) (hf : ∀ x, ∀ c ∈ (f x).cells, Tr 1 c = true) (σ : Sto) (k : Nat) (l : List β) : ((l.map f).flatMap fun x => x.cells.flatMap (rch σ (k + 1))) = [] := by
  refine List.flatMap_eq_nil_iff.2 fun x hx => List.flatMap_eq_nil_iff.2 fun c hc => ?_
  obtain ⟨b, -, rfl⟩ := List.mem_map.1 hx
  have h1 := hf b c hc
  clear hx hc
  have : Tr (k + 1) c = true := by
    induction k with
    | zero => exact h1
    | succ k ih => exact Tr_mono ih
  exact (frz_tr σ _ c this).2
end

/-- A row of plain values of the store's, whole. -/
def Rw (σ : Sto) (n sz : Nat) (v : V) (xs : List V) : Prop := ∃ i, v = .ref i 0 xs.length sz ∧ σ i = some (.row sz xs) ∧ i < n

section
variable {σ σ' σ0 : Sto} {n n' n0 sz : Nat} {v : V} {xs ys : List V}
theorem Rw.loc (h : Rw σ n sz v xs) (hs : ∀ i, i < n → σ' i = σ i) (hn : n ≤ n') : Rw σ' n' sz v xs := by
  obtain ⟨i, rfl, h1, h2⟩ := h
  exact ⟨i, rfl, by rw [hs i h2, h1], by omega⟩
theorem Rw.append (h : Rw σ n0 sz v xs) (hn : n0 ≤ n) {bytes : Nat} (hl : (xs.length + ys.length) * bytes ≤ LIM) :
    ∃ v' σ' n', appendE sz bytes 0 v (some ys) σ n = some (v', σ', n') ∧ Rw σ' n' sz v' (xs ++ ys) ∧ n ≤ n' ∧ (∀ i, i < n → (∀ off len s, v ≠ .ref i off len s) → σ' i = σ i) := by
  obtain ⟨i, rfl, h1, h2⟩ := h
  rw [appendE_ref, h1, appE_row', if_pos ⟨rfl, by omega, hl⟩]
  refine ⟨_, _, _, rfl, ⟨n, by rw [List.length_append], by simp [upd], by omega⟩, by omega, fun j hj hv => ?_⟩
  have a1 : j ≠ n := by omega
  have a2 : j ≠ i := fun h => hv 0 xs.length sz (by rw [h])
  simp [upd, a1, a2]
theorem stepW_appR {T : Tab} (h : Rw σ0 n0 sz v xs) (hs : ∀ i, i < n0 → σ i = σ0 i) (hn : n0 ≤ n) {bytes : Nat} (hl : (xs.length + ys.length) * bytes ≤ LIM)
    {d : Option Nat} {ops : List AOp} {env : Nat → V} {lk : Nat} {Q : St → Prop}
    (hnext : ∀ v' σ' n', Rw σ' n' sz v' (xs ++ ys) → n ≤ n' → (∀ i, i < n → (∀ off len s, v ≠ .ref i off len s) → σ' i = σ i) → WR T ops (ptO env d v') σ' n' lk Q) :
    stepW T (appendE sz bytes 0 v (some ys) σ n) d ops env lk Q := by
  obtain ⟨v', σ', n', h1, h2, h3, h4⟩ := (h.loc hs (Nat.le_refl _)).append hn hl
  rw [h1, stepW_some]
  exact hnext v' σ' n' h2 h3 h4
theorem Rw.giv (h : Rw σ n sz v xs) (hg : ∀ x ∈ xs, Gv 11 x = true) (hc : ∀ x ∈ xs, ∀ cs, x ≠ .agg cs) : giv σ 12 v = some (.own sz xs) ∧ (gids σ 12 v).Nodup := by
  obtain ⟨i, rfl, h1, h2⟩ := h
  constructor
  · simp only [Go.Q.giv, h1, and_self, if_true]
    rw [mapM_id (fun x hx => ?_)]
    · rfl
    · unfold elemM
      split
      · rename_i cs; exact absurd rfl (hc _ hx cs)
      · exact (giv_tr σ 11 x (hg x hx)).1
  · simp only [gids, h1]
    have : (xs.flatMap fun x => x.cells.flatMap (gids σ 11)) = [] := by
      refine List.flatMap_eq_nil_iff.2 fun x hx => List.flatMap_eq_nil_iff.2 fun c hcx => ?_
      have : c = x := by
        cases x
        case agg cs => exact absurd rfl (hc _ hx cs)
        all_goals exact List.mem_singleton.1 hcx
      subst this
      exact (giv_tr σ 11 c (hg c hx)).2
    rw [this]; simp
theorem Rw.frz (h : Rw σ n sz v xs) (ht : ∀ x ∈ xs, Tr 11 x = true) (ht' : ∀ x ∈ xs, ∀ c ∈ x.cells, Tr 11 c = true) : frz σ 12 v = some (.sl sz xs) := by
  obtain ⟨i, rfl, h1, h2⟩ := h
  exact (Fz.ref (S := fun _ => True) h1 trivial (FzL.trees ht ht')).1
end

/-- A call on trees that hands back a row of its own. -/
theorem callE_own {T : Tab} {f : Nat} {args : List V} {sz : Nat} {xs : List V} (hm : T.mode f ≠ .raw) (hr : res T f args = some (.own sz xs)) (ht : args.all (Tr 12) = true) (hn : ∀ x ∈ xs, Nw 12 x = true)
    (fs : Bool) (σ : Sto) (n lk : Nat) : callE T fs f args σ n lk = some (.ref n 0 xs.length sz, upd σ n (some (.row sz xs)), n + 1) := by
  rw [callE_eq hm]
  rw [List.all_eq_true] at ht
  rw [mapM_id (fun c hc => (frz_tr σ 12 c (ht c hc)).1), callR_some, hr, retE_some]
  have : args.flatMap (rch σ 12) = [] := List.flatMap_eq_nil_iff.2 fun c hc => (frz_tr σ 12 c (ht c hc)).2
  rw [this, backE_nil, thaw_own, thawL_nw 12 hn]

end Go.Q
