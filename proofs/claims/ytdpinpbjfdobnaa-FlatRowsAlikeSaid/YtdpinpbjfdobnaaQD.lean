/- What is frozen stays as it is where nothing that it reaches is touched. -/
import Derived.Test.YtdpinpbjfdobnaaQC
section
set_option linter.unusedSimpArgs false
set_option linter.unusedVariables false
namespace Go.Q

theorem mapM_congr {f g : V → Option V} : ∀ {cs : List V}, (∀ c ∈ cs, f c = g c) → cs.mapM f = cs.mapM g
  | [], _ => rfl
  | c :: cs, h => by
    rw [List.mapM_cons, List.mapM_cons, h c (by simp), mapM_congr (fun d hd => h d (List.mem_cons_of_mem _ hd))]

theorem flatMap_congr' {f g : V → List Nat} : ∀ {cs : List V}, (∀ c ∈ cs, f c = g c) → cs.flatMap f = cs.flatMap g
  | [], _ => rfl
  | c :: cs, h => by
    rw [List.flatMap_cons, List.flatMap_cons, h c (by simp), flatMap_congr' (fun d hd => h d (List.mem_cons_of_mem _ hd))]

theorem elemM_loc {f g : V → Option V} {x : V} (h : ∀ c ∈ x.cells, f c = g c) : elemM f x = elemM g x := by
  unfold elemM
  split
  · rename_i cs
    rw [mapM_congr (f := f) (g := g) (cs := cs) (fun c hc => h c hc)]
  · rename_i h'
    refine h x ?_
    cases x
    case agg cs => exact absurd rfl (h' cs)
    all_goals exact List.mem_singleton.2 rfl

theorem frz_loc {σ σ' : Sto} : ∀ (k : Nat) (v : V), (∀ id ∈ rch σ k v, σ' id = σ id) → frz σ' k v = frz σ k v ∧ rch σ' k v = rch σ k v
  | 0, _, _ => ⟨rfl, rfl⟩
  | k + 1, v, h => by
    cases v
    case agg cs =>
      simp only [rch, List.mem_flatMap] at h
      have h1 := fun c hc => frz_loc k c (fun id hid => h id ⟨c, hc, hid⟩)
      simp only [frz, rch]
      rw [mapM_congr (fun c hc => (h1 c hc).1), flatMap_congr' (fun c hc => (h1 c hc).2)]
      exact ⟨rfl, rfl⟩
    case tup cs =>
      simp only [rch, List.mem_flatMap] at h
      have h1 := fun c hc => frz_loc k c (fun id hid => h id ⟨c, hc, hid⟩)
      simp only [frz, rch]
      rw [mapM_congr (fun c hc => (h1 c hc).1), flatMap_congr' (fun c hc => (h1 c hc).2)]
      exact ⟨rfl, rfl⟩
    case fn f cs =>
      simp only [rch, List.mem_flatMap] at h
      have h1 := fun c hc => frz_loc k c (fun id hid => h id ⟨c, hc, hid⟩)
      simp only [frz, rch]
      rw [mapM_congr (fun c hc => (h1 c hc).1), flatMap_congr' (fun c hc => (h1 c hc).2)]
      exact ⟨rfl, rfl⟩
    case bnd f cs =>
      simp only [rch, List.mem_flatMap] at h
      have h1 := fun c hc => frz_loc k c (fun id hid => h id ⟨c, hc, hid⟩)
      simp only [frz, rch]
      rw [mapM_congr (fun c hc => (h1 c hc).1), flatMap_congr' (fun c hc => (h1 c hc).2)]
      exact ⟨rfl, rfl⟩
    case iface t v =>
      simp only [rch] at h
      have h1 := frz_loc k v h
      simp only [frz, rch, h1.1, h1.2]
      exact ⟨trivial, trivial⟩
    case ref id off len sz =>
      simp only [frz_rf, rch_rf] at h ⊢
      rw [h id (by simp)]
      cases he : elemsO (σ id) sz off len with
      | none => exact ⟨rfl, rfl⟩
      | some xs =>
        simp only [he, Option.getD_some, List.mem_cons, List.mem_flatMap] at h
        have h1 := fun x hx c hc => frz_loc k c (fun i hid => h i (.inr ⟨x, hx, c, hc, hid⟩))
        simp only [Option.bind_some, Option.getD_some]
        constructor
        · rw [mapM_congr (fun x hx => elemM_loc (fun c hc => (h1 x hx c hc).1))]
        · congr 1
          exact flatMap_congr' fun x hx => flatMap_congr' fun c hc => (h1 x hx c hc).2
    case ptr id sz i j =>
      simp only [frz_ptr, rch_ptr] at h ⊢
      rw [h id (by simp)]
      cases he : rowO (σ id) sz i with
      | none => exact ⟨rfl, rfl⟩
      | some e =>
        simp only [he, Option.map_some, Option.getD_some, List.mem_cons, List.mem_flatMap] at h
        have h1 := fun c hc => frz_loc k c (fun i hid => h i (.inr ⟨c, hc, hid⟩))
        simp only [Option.bind_some, Option.map_some, Option.getD_some]
        constructor
        · rw [mapM_congr (fun c hc => (h1 c hc).1)]
        · congr 1
          exact flatMap_congr' fun c hc => (h1 c hc).2
    all_goals exact ⟨rfl, rfl⟩

/-- Frozen, out of objects of a set. -/
def Fz (σ : Sto) (k : Nat) (v t : V) (S : Nat → Prop) : Prop := frz σ k v = some t ∧ ∀ id ∈ rch σ k v, S id
/-- Elements .. -/
def FzE (σ : Sto) (k : Nat) (v t : V) (S : Nat → Prop) : Prop := elemM (frz σ k) v = some t ∧ ∀ c ∈ v.cells, ∀ id ∈ rch σ k c, S id
def FzL (σ : Sto) (k : Nat) (xs ts : List V) (S : Nat → Prop) : Prop := xs.mapM (elemM (frz σ k)) = some ts ∧ ∀ x ∈ xs, ∀ c ∈ x.cells, ∀ id ∈ rch σ k c, S id

section
variable {σ σ' : Sto} {k : Nat} {v t : V} {S S' : Nat → Prop} {xs ts ys us : List V}

theorem Fz.loc (h : Fz σ k v t S) (hs : ∀ id, S id → σ' id = σ id) (hS : ∀ id, S id → S' id) : Fz σ' k v t S' := by
  have h1 := frz_loc (σ := σ) (σ' := σ') k v (fun id hid => hs id (h.2 id hid))
  exact ⟨h1.1.trans h.1, fun id hid => hS id (h.2 id (by rw [← h1.2]; exact hid))⟩
theorem FzE.loc (h : FzE σ k v t S) (hs : ∀ id, S id → σ' id = σ id) (hS : ∀ id, S id → S' id) : FzE σ' k v t S' := by
  have h1 := fun c hc => frz_loc (σ := σ) (σ' := σ') k c (fun id hid => hs id (h.2 c hc id hid))
  exact ⟨(elemM_loc (fun c hc => (h1 c hc).1)).trans h.1, fun c hc id hid => hS id (h.2 c hc id (by rw [← (h1 c hc).2]; exact hid))⟩
theorem FzL.loc (h : FzL σ k xs ts S) (hs : ∀ id, S id → σ' id = σ id) (hS : ∀ id, S id → S' id) : FzL σ' k xs ts S' := by
  have h1 := fun x hx c hc => frz_loc (σ := σ) (σ' := σ') k c (fun id hid => hs id (h.2 x hx c hc id hid))
  exact ⟨(mapM_congr (fun x hx => elemM_loc (fun c hc => (h1 x hx c hc).1))).trans h.1, fun x hx c hc id hid => hS id (h.2 x hx c hc id (by rw [← (h1 x hx c hc).2]; exact hid))⟩

theorem FzL.nil : FzL σ k [] [] S := ⟨rfl, fun x hx => by simp at hx⟩
theorem FzL.append (h : FzL σ k xs ts S) (h' : FzL σ k ys us S) : FzL σ k (xs ++ ys) (ts ++ us) S := by
  refine ⟨?_, fun x hx => ?_⟩
  · rw [List.mapM_append, h.1, h'.1]; rfl
  · rcases List.mem_append.1 hx with hx | hx
    · exact h.2 x hx
    · exact h'.2 x hx
theorem FzL.one (h : FzE σ k v t S) : FzL σ k [v] [t] S := by
  refine ⟨?_, fun x hx => ?_⟩
  · rw [List.mapM_cons, h.1]; rfl
  · rw [List.mem_singleton.1 hx]; exact h.2
theorem FzL.trees (h : ∀ x ∈ xs, Tr k x = true) (h' : ∀ x ∈ xs, ∀ c ∈ x.cells, Tr k c = true) : FzL σ k xs xs S :=
  ⟨mapM_id (fun x hx => elemM_tr (h x hx)), fun x hx c hc id hid => by rw [(frz_tr σ k c (h' x hx c hc)).2] at hid; simp at hid⟩
theorem Fz.tree (h : Tr k v = true) : Fz σ k v v S := ⟨(frz_tr σ k v h).1, fun id hid => by rw [(frz_tr σ k v h).2] at hid; simp at hid⟩
theorem Fz.ref {id sz : Nat} (h : σ id = some (.row sz xs)) (hS : S id) (h' : FzL σ k xs ts S) : Fz σ (k + 1) (.ref id 0 xs.length sz) (.sl sz ts) S := by
  refine ⟨?_, fun i hi => ?_⟩
  · rw [frz_rf, h, elemsO_all, Option.bind_some, h'.1]; rfl
  · rw [rch_rf, h, elemsO_all, Option.getD_some, List.mem_cons, List.mem_flatMap] at hi
    rcases hi with rfl | ⟨x, hx, hi⟩
    · exact hS
    · obtain ⟨c, hc, hi⟩ := List.mem_flatMap.1 hi
      exact h'.2 x hx c hc i hi
/-- An element of several cells. -/
theorem FzE.agg {cs ds : List V} (h : cs.mapM (frz σ k) = some ds) (h' : ∀ c ∈ cs, ∀ id ∈ rch σ k c, S id) : FzE σ k (.agg cs) (.agg ds) S := ⟨by simp [elemM, h], h'⟩
theorem FzE.ofFz (h : Fz σ k v t S) (hc : ∀ cs, v ≠ .agg cs) : FzE σ k v t S := by
  have hcell : v.cells = [v] := by
    cases v
    case agg cs => exact absurd rfl (hc cs)
    all_goals rfl
  refine ⟨?_, fun c hc' => ?_⟩
  · rw [← h.1]
    unfold elemM
    split
    · rename_i cs; exact absurd rfl (hc cs)
    · rfl
  · rw [hcell] at hc'
    rw [List.mem_singleton.1 hc']; exact h.2
end

/-- What is put behind a slice that may be nil. -/
def appO {α : Type} : Option (List α) → List α → Option (List α)
  | none, [] => none
  | none, us => some us
  | some ts, us => some (ts ++ us)
theorem lst_appO {α : Type} (o : Option (List α)) (us : List α) : lst (appO o us) = lst o ++ us := by
  cases o <;> cases us <;> simp [appO, lst]
theorem appO_map {α β : Type} (f : α → β) (o : Option (List α)) (us : List α) : (appO o us).map (List.map f) = appO (o.map (List.map f)) (us.map f) := by
  cases o <;> cases us <;> simp [appO]
theorem slV_map {β : Type} (sz : Nat) (f : β → V) (o : Option (List β)) : slV sz id (o.map (List.map f)) = slV sz f o := by cases o <;> simp [slV]

/-- A slice that is being built: nil, or a row of the store's, whole. -/
def Bld (σ : Sto) (n sz : Nat) (v : V) (o : Option (List V)) : Prop := match o with
  | none => v = .nilS
  | some ts => ∃ i xs, v = .ref i 0 xs.length sz ∧ σ i = some (.row sz xs) ∧ i < n ∧ FzL σ 11 xs ts (fun j => j < n ∧ j ≠ i)

theorem FzL.length {σ : Sto} {k : Nat} {xs ts : List V} {S : Nat → Prop} (h : FzL σ k xs ts S) : ts.length = xs.length := by
  have h1 := h.1
  clear h
  induction xs generalizing ts with
  | nil => cases h1; rfl
  | cons x xs ih =>
    rw [List.mapM_cons] at h1
    cases hx : elemM (frz σ k) x with
    | none => rw [hx] at h1; simp at h1
    | some t =>
      cases hr : xs.mapM (elemM (frz σ k)) with
      | none => rw [hx, hr] at h1; simp at h1
      | some r =>
        rw [hx, hr] at h1
        simp only [Option.bind_eq_bind, Option.bind_some, Option.pure_def, Option.some.injEq] at h1
        subst h1
        simp [ih hr]

section
variable {σ σ' : Sto} {n n' n0 sz : Nat} {v : V} {o : Option (List V)}
theorem Bld.frz (h : Bld σ n sz v o) : frz σ 12 v = some (slV sz id o) := by
  cases o with
  | none => simp only [Bld] at h; subst h; rfl
  | some ts =>
    obtain ⟨i, xs, rfl, h1, h2, h3⟩ := h
    have := Fz.ref (S := fun _ => True) h1 trivial (h3.loc (fun _ _ => rfl) (fun _ _ => trivial))
    simpa [slV] using this.1
theorem Bld.rch (h : Bld σ n sz v o) : ∀ i ∈ rch σ 12 v, i < n := by
  cases o with
  | none => simp only [Bld] at h; subst h; intro i hi; simp [Go.Q.rch] at hi
  | some ts =>
    obtain ⟨i, xs, rfl, h1, h2, h3⟩ := h
    exact (Fz.ref (S := fun j => j < n) h1 h2 (h3.loc (fun _ _ => rfl) (fun _ h => h.1))).2
theorem Bld.loc (h : Bld σ n sz v o) (hs : ∀ i, i < n → σ' i = σ i) (hn : n ≤ n') : Bld σ' n' sz v o := by
  cases o with
  | none => exact h
  | some ts =>
    obtain ⟨i, xs, rfl, h1, h2, h3⟩ := h
    exact ⟨i, xs, rfl, by rw [hs i h2, h1], by omega, h3.loc (fun j hj => hs j hj.1) (fun j hj => ⟨by omega, hj.2⟩)⟩
theorem Bld.lenE (h : Bld σ n sz v o) : lenE v = some (.int .i64 ((lst o).length : Int)) := by
  cases o with
  | none => simp only [Bld] at h; subst h; rfl
  | some ts =>
    obtain ⟨i, xs, rfl, h1, h2, h3⟩ := h
    rw [lenE_ref, lst_some, h3.length]

/-- More is put behind it: rows that were laid since. -/
theorem Bld.append (h : Bld σ n0 sz v o) (hn : n0 ≤ n) {bytes : Nat} {ys us : List V} (hy : FzL σ 11 ys us (fun j => n0 ≤ j ∧ j < n)) (hl : ((lst o).length + us.length) * bytes ≤ LIM) :
    ∃ v' σ' n', appendE sz bytes 0 v (some ys) σ n = some (v', σ', n') ∧ Bld σ' n' sz v' (appO o us) ∧ n ≤ n' ∧ (∀ i, i < n → (∀ off len s, v ≠ .ref i off len s) → σ' i = σ i) := by
  have hlen := hy.length
  cases o with
  | none =>
    simp only [Bld] at h
    subst h
    rw [appendE_nil]
    cases ys with
    | nil =>
      have : us = [] := by simpa using hlen
      subst this
      exact ⟨_, _, _, rfl, rfl, Nat.le_refl _, fun _ _ _ => rfl⟩
    | cons y ys =>
      simp only [lst_none, List.length_nil, Nat.zero_add] at hl
      rw [hlen] at hl
      simp only [List.isEmpty_cons, Bool.false_eq_true, if_false, hl, if_true]
      refine ⟨_, _, _, rfl, ?_, by omega, fun i hi _ => by simp [upd]; omega⟩
      have ho : appO none us = some us := by
        cases us with
        | nil => simp at hlen
        | cons u us => rfl
      rw [ho]
      exact ⟨n, y :: ys, rfl, by simp [upd], by omega, hy.loc (fun j hj => by simp [upd]; omega) (fun j hj => ⟨by omega, by omega⟩)⟩
  | some ts =>
    obtain ⟨i, xs, rfl, h1, h2, h3⟩ := h
    have hx := h3.length
    simp only [lst_some, hx, hlen] at hl
    rw [appendE_ref, h1, appE_row', if_pos ⟨.inl rfl, by omega, hl⟩, if_pos rfl]
    refine ⟨_, _, _, rfl, ?_, by omega, fun j hj hv => ?_⟩
    · simp only [appO]
      have e1 : xs.length + ys.length = (xs ++ ys).length := by simp
      rw [e1]
      refine ⟨n, xs ++ ys, rfl, by simp [upd], by omega, ?_⟩
      refine FzL.append (h3.loc (fun j hj => ?_) (fun j hj => ⟨by omega, by omega⟩)) (hy.loc (fun j hj => ?_) (fun j hj => ⟨by omega, by omega⟩))
      · have a1 : j ≠ n := by omega
        simp [upd, a1, hj.2]
      · have a1 : j ≠ n := by omega
        have a2 : j ≠ i := by omega
        simp [upd, a1, a2]
    · have a1 : j ≠ n := by omega
      have a2 : j ≠ i := fun h => hv 0 xs.length sz (by rw [h])
      simp [upd, a1, a2]

theorem stepW_app {T : Tab} {σ0 : Sto} (h : Bld σ0 n0 sz v o) (hs : ∀ i, i < n0 → σ i = σ0 i) (hn : n0 ≤ n) {bytes : Nat} {ys us : List V} (hy : FzL σ 11 ys us (fun j => n0 ≤ j ∧ j < n))
    (hl : ((lst o).length + us.length) * bytes ≤ LIM) {d : Option Nat} {ops : List AOp} {env : Nat → V} {lk : Nat} {Q : St → Prop}
    (hnext : ∀ v' σ' n', Bld σ' n' sz v' (appO o us) → n ≤ n' → (∀ i, i < n → (∀ off len s, v ≠ .ref i off len s) → σ' i = σ i) → WR T ops (ptO env d v') σ' n' lk Q) :
    stepW T (appendE sz bytes 0 v (some ys) σ n) d ops env lk Q := by
  obtain ⟨v', σ', n', h1, h2, h3, h4⟩ := (h.loc hs (Nat.le_refl _)).append hn hy hl
  rw [h1, stepW_some]
  exact hnext v' σ' n' h2 h3 h4

theorem mapM_enc {β : Type} (f : β → V) (hf : ∀ x, Tr 1 (f x) = true) (σ : Sto) (k : Nat) (l : List β) : (l.map f).mapM (elemM (frz σ (k + 1))) = some (l.map f) := by
  refine mapM_id fun x hx => ?_
  obtain ⟨b, -, rfl⟩ := List.mem_map.1 hx
  refine elemM_tr ?_
  clear hx
  induction k with
  | zero => exact hf b
  | succ k ih => exact Tr_mono ih
theorem rch_enc {β : Type} (f : β → V) (hf : ∀ x, ∀ c ∈ (f x).cells, Tr 1 c = true) (σ : Sto) (k : Nat) (l : List β) : ((l.map f).flatMap fun x => x.cells.flatMap (rch σ (k + 1))) = [] := by
  refine List.flatMap_eq_nil_iff.2 fun x hx => List.flatMap_eq_nil_iff.2 fun c hc => ?_
  obtain ⟨b, -, rfl⟩ := List.mem_map.1 hx
  have h1 := hf b c hc
  clear hx hc
  have : Tr (k + 1) c = true := by
    induction k with
    | zero => exact h1
    | succ k ih => exact Tr_mono ih
  exact (frz_tr σ _ c this).2
end

/-- A row of plain values of the store's, whole. -/
def Rw (σ : Sto) (n sz : Nat) (v : V) (xs : List V) : Prop := ∃ i, v = .ref i 0 xs.length sz ∧ σ i = some (.row sz xs) ∧ i < n

section
variable {σ σ' σ0 : Sto} {n n' n0 sz : Nat} {v : V} {xs ys : List V}
theorem Rw.loc (h : Rw σ n sz v xs) (hs : ∀ i, i < n → σ' i = σ i) (hn : n ≤ n') : Rw σ' n' sz v xs := by
  obtain ⟨i, rfl, h1, h2⟩ := h
  exact ⟨i, rfl, by rw [hs i h2, h1], by omega⟩
theorem Rw.append (h : Rw σ n0 sz v xs) (hn : n0 ≤ n) {bytes : Nat} (hl : (xs.length + ys.length) * bytes ≤ LIM) :
    ∃ v' σ' n', appendE sz bytes 0 v (some ys) σ n = some (v', σ', n') ∧ Rw σ' n' sz v' (xs ++ ys) ∧ n ≤ n' ∧ (∀ i, i < n → (∀ off len s, v ≠ .ref i off len s) → σ' i = σ i) := by
  obtain ⟨i, rfl, h1, h2⟩ := h
  rw [appendE_ref, h1, appE_row', if_pos ⟨.inl rfl, by omega, hl⟩, if_pos rfl]
  refine ⟨_, _, _, rfl, ⟨n, by rw [List.length_append], by simp [upd], by omega⟩, by omega, fun j hj hv => ?_⟩
  have a1 : j ≠ n := by omega
  have a2 : j ≠ i := fun h => hv 0 xs.length sz (by rw [h])
  simp [upd, a1, a2]
theorem stepW_appR {T : Tab} (h : Rw σ0 n0 sz v xs) (hs : ∀ i, i < n0 → σ i = σ0 i) (hn : n0 ≤ n) {bytes : Nat} (hl : (xs.length + ys.length) * bytes ≤ LIM)
    {d : Option Nat} {ops : List AOp} {env : Nat → V} {lk : Nat} {Q : St → Prop}
    (hnext : ∀ v' σ' n', Rw σ' n' sz v' (xs ++ ys) → n ≤ n' → (∀ i, i < n → (∀ off len s, v ≠ .ref i off len s) → σ' i = σ i) → WR T ops (ptO env d v') σ' n' lk Q) :
    stepW T (appendE sz bytes 0 v (some ys) σ n) d ops env lk Q := by
  obtain ⟨v', σ', n', h1, h2, h3, h4⟩ := (h.loc hs (Nat.le_refl _)).append hn hl
  rw [h1, stepW_some]
  exact hnext v' σ' n' h2 h3 h4
theorem Rw.giv (h : Rw σ n sz v xs) (hg : ∀ x ∈ xs, Gv 11 x = true) (hc : ∀ x ∈ xs, ∀ cs, x ≠ .agg cs) : giv σ 12 v = some (.own sz xs) ∧ (gids σ 12 v).Nodup := by
  obtain ⟨i, rfl, h1, h2⟩ := h
  constructor
  · simp only [Go.Q.giv, h1, and_self, if_true]
    rw [mapM_id (fun x hx => ?_)]
    · rfl
    · unfold elemM
      split
      · rename_i cs; exact absurd rfl (hc _ hx cs)
      · exact (giv_tr σ 11 x (hg x hx)).1
  · simp only [gids, h1]
    have : (xs.flatMap fun x => x.cells.flatMap (gids σ 11)) = [] := by
      refine List.flatMap_eq_nil_iff.2 fun x hx => List.flatMap_eq_nil_iff.2 fun c hcx => ?_
      have : c = x := by
        cases x
        case agg cs => exact absurd rfl (hc _ hx cs)
        all_goals exact List.mem_singleton.1 hcx
      subst this
      exact (giv_tr σ 11 c (hg c hx)).2
    rw [this]; simp
theorem Rw.frz (h : Rw σ n sz v xs) (ht : ∀ x ∈ xs, Tr 11 x = true) (ht' : ∀ x ∈ xs, ∀ c ∈ x.cells, Tr 11 c = true) : frz σ 12 v = some (.sl sz xs) := by
  obtain ⟨i, rfl, h1, h2⟩ := h
  exact (Fz.ref (S := fun _ => True) h1 trivial (FzL.trees ht ht')).1
end

/-- A call on trees that hands back a row of its own. -/
theorem callE_own {T : Tab} {f : Nat} {args : List V} {sz : Nat} {xs : List V} (hm : T.mode f ≠ .raw) (hr : res T f args = some (.own sz xs)) (ht : args.all (Tr 12) = true) (hn : ∀ x ∈ xs, Nw 12 x = true)
    (fs : Bool) (σ : Sto) (n lk : Nat) : callE T fs f args σ n lk = some (.ref n 0 xs.length sz, upd σ n (some (.row sz xs)), n + 1) := by
  rw [callE_eq hm]
  rw [List.all_eq_true] at ht
  rw [mapM_id (fun c hc => (frz_tr σ 12 c (ht c hc)).1), callR_some, hr, retE_some]
  have : args.flatMap (rch σ 12) = [] := List.flatMap_eq_nil_iff.2 fun c hc => (frz_tr σ 12 c (ht c hc)).2
  rw [this, backE_nil, thaw_own, thawL_nw 12 hn]

/-- A slice that is being built out of plain values: nil, or a row of the store's, whole; its number is m or more. -/
def Pl (σ : Sto) (m n sz : Nat) (v : V) (o : Option (List V)) : Prop := match o with
  | none => v = .nilS
  | some xs => ∃ i, v = .ref i 0 xs.length sz ∧ σ i = some (.row sz xs) ∧ m ≤ i ∧ i < n

section
variable {σ σ' σ0 : Sto} {m n n' n0 sz : Nat} {v : V} {o : Option (List V)} {ys : List V}
theorem Pl.loc (h : Pl σ m n sz v o) (hs : ∀ i, m ≤ i → i < n → σ' i = σ i) (hn : n ≤ n') : Pl σ' m n' sz v o := by
  cases o with
  | none => exact h
  | some xs =>
    obtain ⟨i, rfl, h1, h2, h3⟩ := h
    exact ⟨i, rfl, by rw [hs i h2 h3, h1], h2, by omega⟩
theorem Pl.append (h : Pl σ m n0 sz v o) (hn : n0 ≤ n) (hm : m ≤ n) {bytes lk : Nat} (hlk : lk ≤ m) (hl : ((lst o).length + ys.length) * bytes ≤ LIM) :
    ∃ v' σ' n', appendE sz bytes lk v (some ys) σ n = some (v', σ', n') ∧ Pl σ' m n' sz v' (appO o ys) ∧ n ≤ n' ∧ (∀ i, i < m → σ' i = σ i) := by
  cases o with
  | none =>
    simp only [Pl] at h
    subst h
    rw [appendE_nil]
    cases ys with
    | nil => exact ⟨_, _, _, rfl, rfl, Nat.le_refl _, fun _ _ => rfl⟩
    | cons y ys =>
      simp only [lst_none, List.length_nil, Nat.zero_add] at hl
      simp only [List.isEmpty_cons, Bool.false_eq_true, if_false, hl, if_true]
      exact ⟨_, _, _, rfl, ⟨n, rfl, by simp [upd], hm, by omega⟩, by omega, fun i hi => by simp [upd]; omega⟩
  | some xs =>
    obtain ⟨i, rfl, h1, h2, h3⟩ := h
    simp only [lst_some] at hl
    rw [appendE_ref, h1, appE_row', if_pos ⟨.inl rfl, by omega, hl⟩, if_pos rfl]
    refine ⟨_, _, _, rfl, ⟨n, by rw [List.length_append], by simp [upd], hm, by omega⟩, by omega, fun j hj => ?_⟩
    have a1 : j ≠ n := by omega
    have a2 : j ≠ i := by omega
    simp [upd, a1, a2]
theorem Pl.frz (h : Pl σ m n sz v o) (ht : ∀ x ∈ lst o, Tr 11 x = true) (ht' : ∀ x ∈ lst o, ∀ c ∈ x.cells, Tr 11 c = true) : frz σ 12 v = some (slV sz id o) := by
  cases o with
  | none => simp only [Pl] at h; subst h; rfl
  | some xs =>
    obtain ⟨i, rfl, h1, h2, h3⟩ := h
    have := (Fz.ref (S := fun _ => True) h1 trivial (FzL.trees ht ht')).1
    simpa [slV] using this
end

/-- A slice's elements can be handed over with it. -/
theorem giv_row {σ : Sto} {id sz : Nat} {xs : List V} (h : σ id = some (.row sz xs)) (hg : ∀ x ∈ xs, elemM (giv σ 11) x = some x) (hg' : ∀ x ∈ xs, ∀ c ∈ x.cells, gids σ 11 c = []) :
    giv σ 12 (.ref id 0 xs.length sz) = some (.own sz xs) ∧ (gids σ 12 (.ref id 0 xs.length sz)).Nodup := by
  constructor
  · simp only [giv, h, and_self, if_true]
    rw [mapM_id hg]; rfl
  · simp only [gids, h]
    rw [List.flatMap_eq_nil_iff.2 fun x hx => List.flatMap_eq_nil_iff.2 fun c hc => hg' x hx c hc]
    simp

/-- A call on trees that hands back a row of its own, or nil. -/
theorem callE_ownO {T : Tab} {f : Nat} {args : List V} {sz : Nat} {o : Option (List V)} (hm : T.mode f ≠ .raw) (hr : res T f args = some (match o with | none => .nilS | some xs => .own sz xs)) (ht : args.all (Tr 12) = true) (hn : ∀ x ∈ lst o, Nw 12 x = true)
    (fs : Bool) (σ : Sto) (n lk : Nat) : callE T fs f args σ n lk = some (match o with | none => (.nilS, σ, n) | some xs => (.ref n 0 xs.length sz, upd σ n (some (.row sz xs)), n + 1)) := by
  cases o with
  | none => exact callE_tr hm hr ht rfl fs σ n lk
  | some xs => exact callE_own hm hr ht hn fs σ n lk

/-- A loop over a function. -/
theorem WC_rangeF {T : Tab} {g : Opd} {ps : List Nat} {assign body : AC} {env : Nat → V} {σ : Sto} {n lk : Nat} {Q : Ex → St → Prop} {f : Nat} {caps : List V} (hg : vl env g = .fn f caps) (hn : lk ≤ n)
    (h : run T (.raw f (.yld n :: caps) (upd σ n (some (.loop env ps assign body .ready none))) (n + 1) lk) (memQ fun _ σ' n' => ∃ env' ps' a' b' st pend, σ' n = some (.loop env' ps' a' b' st pend) ∧ st ≠ .busy ∧
      Q (pend.getD .normal) ⟨env, upd σ' n none, n', lk⟩)) : WC T (.rangeF g ps assign body) env σ n lk Q := by
  show wpC T (run T) _ _ _
  simp only [wpC, rangeW, st_val, hg]
  refine ⟨hn, run_mono _ _ _ (fun o ho => ?_) h⟩
  cases o <;> try exact ho.elim
  obtain ⟨env', ps', a', b', st, pend, h1, h2, h3⟩ := ho
  simp only [h1]
  exact ⟨h2, h3⟩

/-- A round of such a loop that goes on. -/
theorem yieldW_go {T : Tab} {l : Nat} {args : List V} {σ : Sto} {n lk : Nat} {Q : V → Sto → Nat → Prop} {env : Nat → V} {ps : List Nat} {assign body : AC} {pend : Option Ex}
    (hl : σ l = some (.loop env ps assign body .ready pend)) (ha : args.length = ps.length) (hlk : lk ≤ l)
    (h : WC T assign (bindPs env ps args) σ n lk fun ex s => ex = .normal ∧ s.σ l = some (.loop env ps assign body .ready pend) ∧ s.lk = lk ∧
      WC T body s.env (upd s.σ l (some (.loop env ps assign body .busy pend))) s.n lk fun ex s' => ex = .normal ∧ s'.σ l = some (.loop env ps assign body .busy pend) ∧
        Q (.bool true) (upd s'.σ l (some (.loop env ps assign body .ready none))) s'.n) : yieldW (run T) l args σ n lk Q := by
  unfold yieldW
  simp only [hl]
  refine ⟨ha, hlk, run_step ?_⟩
  simp only [jobW]
  refine wpC_mono (fun _ _ x => x) run_mono _ _ _ _ (fun e s ⟨h1, h2, h3, h4⟩ => ?_) (WC_ok _ _ _ _ _ _ h)
  obtain ⟨env1, σ1, n1, lk1⟩ := s
  simp only at h2 h3 h4
  subst h3
  refine ⟨h1, env, ps, assign, body, pend, h2, wpC_mono (fun _ _ x => x) run_mono _ _ _ _ (fun e2 s2 ⟨k1, k2, k3⟩ => ?_) (WC_ok _ _ _ _ _ _ h4)⟩
  subst k1
  exact ⟨⟨env, ps, assign, body, pend, k2⟩, env, ps, assign, body, pend, k2, by simpa using k3⟩

theorem bind_cons (env : Nat → V) (p : Nat) (ps : List Nat) (x : V) (xs : List V) : bindPs env (p :: ps) (x :: xs) = bindPs (pt env p x) ps xs := rfl
theorem bind_nil (env : Nat → V) : bindPs env [] [] = env := rfl

section
variable {σ σ0 : Sto} {m n n0 sz : Nat} {v : V} {o : Option (List V)} {ys : List V}
theorem Pl.cells (h : Pl σ m n sz v o) : v.cells = [v] := by
  cases o with
  | none => simp only [Pl] at h; subst h; rfl
  | some xs => obtain ⟨i, rfl, -⟩ := h; rfl
theorem Pl.one (h : Pl σ m n sz v o) : v.one = true := by
  cases o with
  | none => simp only [Pl] at h; subst h; rfl
  | some xs => obtain ⟨i, rfl, -⟩ := h; rfl
theorem stepW_appP {T : Tab} (h : Pl σ0 m n0 sz v o) (hs : ∀ i, m ≤ i → i < n0 → σ i = σ0 i) (hn : n0 ≤ n) (hm : m ≤ n) {bytes lk' : Nat} (hlk : lk' ≤ m) (hl : ((lst o).length + ys.length) * bytes ≤ LIM)
    {d : Option Nat} {ops : List AOp} {env : Nat → V} {lk : Nat} {Q : St → Prop}
    (hnext : ∀ v' σ' n', Pl σ' m n' sz v' (appO o ys) → n ≤ n' → (∀ i, i < m → σ' i = σ i) → WR T ops (ptO env d v') σ' n' lk Q) :
    stepW T (appendE sz bytes lk' v (some ys) σ n) d ops env lk Q := by
  obtain ⟨v', σ', n', h1, h2, h3, h4⟩ := (h.loc hs (Nat.le_refl _)).append (ys := ys) hn hm hlk hl
  rw [h1, stepW_some]
  exact hnext v' σ' n' h2 h3 h4
end

theorem Pl.frzk {σ : Sto} {m n sz : Nat} {v : V} {o : Option (List V)} (h : Pl σ m n sz v o) (k : Nat) (ht : ∀ x ∈ lst o, Tr k x = true) (ht' : ∀ x ∈ lst o, ∀ c ∈ x.cells, Tr k c = true) : Go.Q.frz σ (k + 1) v = some (slV sz id o) := by
  cases o with
  | none => simp only [Pl] at h; subst h; rfl
  | some xs =>
    obtain ⟨i, rfl, h1, h2, h3⟩ := h
    have := (Fz.ref (S := fun _ => True) h1 trivial (FzL.trees ht ht')).1
    simpa [slV] using this

/-- A call on trees, as it comes. -/
theorem callE_thaw {T : Tab} {f : Nat} {args : List V} {r : V} (hm : T.mode f ≠ .raw) (hr : res T f args = some r) (ht : args.all (Tr 12) = true) (fs : Bool) (σ : Sto) (n lk : Nat) :
    callE T fs f args σ n lk = some (thaw σ n r) := by
  rw [callE_eq hm]
  rw [List.all_eq_true] at ht
  rw [mapM_id (fun c hc => (frz_tr σ 12 c (ht c hc)).1), callR_some, hr, retE_some]
  have : args.flatMap (rch σ 12) = [] := List.flatMap_eq_nil_iff.2 fun c hc => (frz_tr σ 12 c (ht c hc)).2
  rw [this, backE_nil]

section
variable {σ σ0 : Sto} {m n n0 sz : Nat} {v : V} {o : Option (List V)} {y : V}
/-- One more is put behind; all else stays as it is. -/
theorem stepW_app1 {T : Tab} (h : Pl σ0 m n0 sz v o) (hs : ∀ i, m ≤ i → i < n0 → σ i = σ0 i) (hn : n0 ≤ n) (hm : m ≤ n) {bytes lk' : Nat} (hlk : lk' ≤ m) (hl : ((lst o).length + 1) * bytes ≤ LIM)
    {d : Option Nat} {ops : List AOp} {env : Nat → V} {lk : Nat} {Q : St → Prop}
    (hnext : ∀ (i : Nat) (σ' : Sto), Pl σ' m (n + 1) sz (.ref n 0 ((lst o).length + 1) sz) (some (lst o ++ [y])) → (∀ i, i < n → (∀ off len s, v ≠ .ref i off len s) → σ' i = σ i) → WR T ops (ptO env d (.ref n 0 ((lst o).length + 1) sz)) σ' (n + 1) lk Q) :
    stepW T (appendE sz bytes lk' v (some [y]) σ n) d ops env lk Q := by
  have h := h.loc hs (Nat.le_refl _)
  cases o with
  | none =>
    simp only [Pl] at h
    subst h
    simp only [lst_none, List.length_nil, Nat.zero_add] at hl hnext
    rw [appendE_nil]
    simp only [List.isEmpty_cons, Bool.false_eq_true, if_false, List.length_cons, List.length_nil, Nat.zero_add, hl, if_true, stepW_some]
    exact hnext 0 _ ⟨n, rfl, by simp [upd], hm, by omega⟩ (fun i hi _ => by simp only [upd]; rw [if_neg (by omega)])
  | some xs =>
    obtain ⟨i, rfl, h1, h2, h3⟩ := h
    simp only [lst_some] at hl hnext
    rw [appendE_ref, h1, appE_row', if_pos ⟨.inl rfl, by omega, by simpa using hl⟩, if_pos rfl, stepW_some]
    refine hnext 0 _ ⟨n, by simp, by simp [upd], hm, by omega⟩ (fun j hj hv => ?_)
    have a1 : j ≠ n := by omega
    have a2 : j ≠ i := fun h => hv 0 xs.length sz (by rw [h])
    simp [upd, a1, a2]
end

section
variable {T : Tab}
/-- A function on trees, of whose result something is known. -/
theorem res_pure {f : Nat} {args : List V} {R : V → Prop} {fn : Fn} (hf : T.fn f = some fn) (hl : args.length = fn.np) (hm : T.mode f = .pure)
    (h : WC T fn.body (envOf args) Sto.empty 0 0 (endQ fn.res fun σ v => ∃ r, frz σ DEEP v = some r ∧ R r)) : ∃ r, res T f args = some r ∧ R r := by
  have hh : run T (.pure f args) (fun o => ∃ r, o = .val r ∧ R r) := by
    refine run_step ?_
    simp only [jobW]
    refine ⟨fn, hf, hl, (by rw [hm]; decide), wpC_mono (fun _ _ x => x) run_mono _ _ _ _ (fun e s hh => ?_) (WC_ok _ _ _ _ _ _ h)⟩
    obtain ⟨h1, v, h2, r, h3, h4⟩ := hh
    exact ⟨h1, v, h2, r, by rw [hm]; exact h3, r, rfl, h4⟩
  obtain ⟨o, ⟨r, rfl, hr⟩, h4⟩ := run_def _ _ hh
  exact ⟨r, run_res h4, hr⟩
theorem res_own {f : Nat} {args : List V} {R : V → Prop} {fn : Fn} (hf : T.fn f = some fn) (hl : args.length = fn.np) (hm : T.mode f = .own)
    (h : WC T fn.body (envOf args) Sto.empty 0 0 (endQ fn.res fun σ v => ∃ r, giv σ DEEP v = some r ∧ (gids σ DEEP v).Nodup ∧ R r)) : ∃ r, res T f args = some r ∧ R r := by
  have hh : run T (.pure f args) (fun o => ∃ r, o = .val r ∧ R r) := by
    refine run_step ?_
    simp only [jobW]
    refine ⟨fn, hf, hl, (by rw [hm]; decide), wpC_mono (fun _ _ x => x) run_mono _ _ _ _ (fun e s hh => ?_) (WC_ok _ _ _ _ _ _ h)⟩
    obtain ⟨h1, v, h2, r, h3, h4, h5⟩ := hh
    exact ⟨h1, v, h2, r, by rw [hm]; exact ⟨h3, h4⟩, r, rfl, h5⟩
  obtain ⟨o, ⟨r, rfl, hr⟩, h4⟩ := run_def _ _ hh
  exact ⟨r, run_res h4, hr⟩
end
section
variable {T : Tab}
/-- A loop is left at its own end. -/
def exQ (b lk : Nat) (E : (Nat → V) → Sto → Nat → Prop) : Ex → St → Prop
  | .exit i, s => i = b ∧ s.lk = lk ∧ E s.env s.σ s.n
  | _, _ => False
theorem exQ_exit (b lk : Nat) (E : (Nat → V) → Sto → Nat → Prop) (i : Nat) (env : Nat → V) (σ : Sto) (n lk' : Nat) : exQ b lk E (.exit i) ⟨env, σ, n, lk'⟩ = (i = b ∧ lk' = lk ∧ E env σ n) := rfl

theorem WC_loopE {α : Type} {c : AC} {Q : Ex → St → Prop} (b lk : Nat) (I : α → (Nat → V) → Sto → Nat → Prop) (m : α → Nat) (E : (Nat → V) → Sto → Nat → Prop)
    (hI : ∀ a env σ n, I a env σ n → WC T c env σ n lk (lpQ (fun env' σ' n' lk' => lk' = lk ∧ ∃ a', m a' < m a ∧ I a' env' σ' n') (exQ b lk E)))
    (hE : ∀ env σ n, E env σ n → Q (.exit b) ⟨env, σ, n, lk⟩) (a : α) (env : Nat → V) (σ : Sto) (n : Nat) (h : I a env σ n) : WC T (.loop c) env σ n lk Q := by
  have h1 := WC_loopI (Q := exQ b lk E) lk I m hI a env σ n h
  refine wpC_mono (fun _ _ x => x) run_mono (.loop c) _ _ _ (fun e s hh => ?_) h1
  cases e with
  | exit i =>
    obtain ⟨env', σ', n', lk'⟩ := s
    obtain ⟨rfl, h2, h3⟩ := hh
    simp only at h2
    subst h2
    exact hE _ _ _ h3
  | _ => exact hh.elim
end
end Go.Q
end

section
/- The evaluator, run: for calls on closed values. -/
set_option linter.unusedSimpArgs false
set_option linter.unusedVariables false
namespace Go.Q

section
variable (T : Tab) (rec : Job → Option Out)

def exCall (fs : Bool) (f : Nat) (args : List V) (σ : Sto) (n lk : Nat) : Option (V × Sto × Nat) :=
  match T.mode f with
  | .raw => if fs then match rec (.raw f args σ n lk) with
      | some (.mem v σ' n') => some (v, σ', n')
      | _ => none
    else none
  | _ => match args.mapM (frz σ DEEP) with
    | none => none
    | some ts => match rec (.pure f ts) with
      | some (.val r) =>
        if flat r then some (thaw (dropL σ []) n r)
        else if (fs || (args.flatMap (rch σ DEEP)).isEmpty) && (args.flatMap (rch σ DEEP)).all (fun id => decide (lk ≤ id)) then some (thaw (dropL σ (args.flatMap (rch σ DEEP))) n r) else none
      | _ => none

def exYield (l : Nat) (args : List V) (σ : Sto) (n lk : Nat) : Option (V × Sto × Nat) :=
  match σ l with
  | some (.loop env ps assign body .ready pend) =>
    if args.length = ps.length ∧ lk ≤ l then match rec (.round l (bindPs env ps args) assign body σ n lk) with
      | some (.fin ex σ' n') => match σ' l with
        | some (.loop env2 ps2 a2 b2 .busy _) =>
          some (.bool (ex = .normal), upd σ' l (some (.loop env2 ps2 a2 b2 (if ex = .normal then .ready else .done) (if ex = .normal then none else some ex))), n')
        | _ => none
      | _ => none
    else none
  | _ => none

def exOp (fs : Bool) (ρ : Opd → V) (σ : Sto) (n lk : Nat) (ai : AI) : Option (V × Sto × Nat) :=
  match ai with
  | .call f args => exCall T rec fs f (args.map ρ) σ n lk
  | .callv g args => match ρ g with
    | .fn f caps => exCall T rec fs f (args.map ρ ++ caps) σ n lk
    | .bnd f bs => exCall T rec fs f (bs ++ args.map ρ) σ n lk
    | .yld l => if fs then exYield rec l (args.map ρ) σ n lk else none
    | _ => none
  | .inv x tbl args => if fs then (match invOf σ tbl (ρ x) with
    | some (f, r) => exCall T rec fs f (r :: args.map ρ) σ n lk
    | none => none) else none
  | ai => ev ρ σ n lk ai

def exR : List AOp → St → Option St
  | [], s => some s
  | o :: ops, s => if wants o.guard s.env then match exOp T rec true s.val s.σ s.n s.lk o.op with
      | some (v, σ', n') => exR ops ({ s with σ := σ', n := n' }.put o.dst v)
      | none => none
    else exR ops (s.put o.dst .undef)

def exD (n0 : Nat) : List DOp → St → Option St
  | [], s => some s
  | d :: ds, s => if wants d.o.guard s.env then
      match exOp T rec false s.val (if d.pure then Sto.empty else if d.wr then s.σ else hide s.σ n0 (n0 + BIG * d.rank) d.hid) (n0 + BIG * d.rank) (if d.wr && !d.pure then s.lk else n0 + BIG * d.low.getD d.rank) d.o.op with
      | some (v, σ', n') => if n' ≤ n0 + BIG * d.rank + (if d.lays then BIG else 0) then
          exD n0 ds ({ s with σ := (if d.pure then s.σ else if d.wr then σ' else match d.low with
            | some lo => mergeL s.σ σ' n0 lo (n0 + BIG * d.rank + (if d.lays then BIG else 0)) d.hid
            | none => if d.lays then merge s.σ σ' (n0 + BIG * d.rank) else s.σ) }.put d.o.dst v) else none
      | none => none
    else exD n0 ds (s.put d.o.dst .undef)

def exS : List Seg → St → Option St
  | [], s => some s
  | g :: gs, s => match exD T rec s.n g.ds s with
    | some s' => match exR T rec g.ops { s' with n := s.n + BIG * g.lays } with
      | some s2 => exS gs s2
      | none => none
    | none => none

def exLoop (B : St → Option (Ex × St)) : Nat → St → Option (Ex × St)
  | 0, _ => none
  | k + 1, s => match B s with
    | some (.normal, s') => exLoop B k s'
    | r => r

def exC (k : Nat) : AC → St → Option (Ex × St)
  | .skip, s => some (.normal, s)
  | .reg ops, s => (exR T rec ops s).map fun s' => (.normal, s')
  | .regd segs, s => (exS T rec segs s).map fun s' => (.normal, s')
  | .seq a b, s => match exC k a s with
    | some (.normal, s') => exC k b s'
    | r => r
  | .cond x a b, s => match s.val x with
    | .bool true => exC k a s
    | .bool false => exC k b s
    | _ => none
  | .block id c, s => match exC k c s with
    | some (.exit i, s') => if i = id then some (.normal, s') else some (.exit i, s')
    | r => r
  | .loop c, s => exLoop (exC k c) k s
  | .rangeF g ps assign body, s => match s.val g with
    | .fn f caps => if s.lk ≤ s.n then match rec (.raw f (.yld s.n :: caps) (upd s.σ s.n (some (.loop s.env ps assign body .ready none))) (s.n + 1) s.lk) with
        | some (.mem _ σ' n') => match σ' s.n with
          | some (.loop _ _ _ _ .ready pend) | some (.loop _ _ _ _ .done pend) => some (pend.getD .normal, { s with σ := upd σ' s.n none, n := n' })
          | _ => none
        | _ => none
      else none
    | _ => none
  | .exit id, s => some (.exit id, s)
  | .ret, s => some (.ret, s)
end

def exJob (T : Tab) : Nat → Job → Option Out
  | 0, _ => none
  | k + 1, .pure f args => match T.fn f with
    | some fn => if args.length = fn.np ∧ T.mode f ≠ .raw then match exC T (exJob T k) k fn.body ⟨envOf args, Sto.empty, 0, 0⟩ with
        | some (ex, s) => if isEnd ex then (outOf s fn.res).bind fun v =>
            if T.mode f = .own then (if (gids s.σ DEEP v).Nodup then (giv s.σ DEEP v).map .val else none) else (frz s.σ DEEP v).map .val
          else none
        | none => none
      else none
    | none => none
  | k + 1, .raw f args σ n lk => match T.fn f with
    | some fn => if args.length = fn.np then match exC T (exJob T k) k fn.body ⟨envOf args, σ, n, lk⟩ with
        | some (ex, s) => if isEnd ex then (outOf s fn.res).map fun v => .mem v s.σ s.n else none
        | none => none
      else none
    | none => none
  | k + 1, .round l env assign body σ n lk => match exC T (exJob T k) k assign ⟨env, σ, n, lk⟩ with
    | some (.normal, s) => match s.σ l with
      | some (.loop env' ps a b .ready pend) => match exC T (exJob T k) k body { s with σ := upd s.σ l (some (.loop env' ps a b .busy pend)) } with
        | some (ex, s') => match s'.σ l with
          | some (.loop _ _ _ _ .busy _) => some (.fin ex s'.σ s'.n)
          | _ => none
        | none => none
      | _ => none
    | _ => none

end Go.Q
end

section
/- What the evaluator comes to when it is run, its rules say. -/
set_option linter.unusedSimpArgs false
set_option linter.unusedVariables false
namespace Go.Q

section
variable {T : Tab} {C : Calls'} {rec : Job → Option Out}

theorem exCall_sound (hm : MonoC C) (hr : ∀ j o, rec j = some o → C j (fun o' => o' = o)) {fs : Bool} {f : Nat} {args : List V} {σ σ' : Sto} {n n' lk : Nat} {v : V}
    (h : exCall T rec fs f args σ n lk = some (v, σ', n')) {Q : V → Sto → Nat → Prop} (hq : Q v σ' n') : callW T C fs f args σ n lk Q := by
  unfold exCall at h
  unfold callW
  have pure : (match args.mapM (frz σ DEEP) with
    | none => none
    | some ts => match rec (.pure f ts) with
      | some (.val r) =>
        if flat r then some (thaw (dropL σ []) n r)
        else if (fs || (args.flatMap (rch σ DEEP)).isEmpty) && (args.flatMap (rch σ DEEP)).all (fun id => decide (lk ≤ id)) then some (thaw (dropL σ (args.flatMap (rch σ DEEP))) n r) else none
      | _ => none) = some (v, σ', n') → ∃ ts, args.mapM (frz σ DEEP) = some ts ∧ ∃ r, C (.pure f ts) (fun o => o = .val r) ∧
      ∃ D : List Nat, D = (if flat r then [] else args.flatMap (rch σ DEEP)) ∧ (fs = false → D = []) ∧ (∀ id ∈ D, lk ≤ id) ∧
        Q (thaw (dropL σ D) n r).1 (thaw (dropL σ D) n r).2.1 (thaw (dropL σ D) n r).2.2 := by
    intro h
    split at h
    · cases h
    · rename_i ts hts
      split at h
      · rename_i r hrec
        refine ⟨ts, hts, r, hr _ _ hrec, ?_⟩
        split at h
        · rename_i hf
          simp only [Option.some.injEq] at h
          refine ⟨[], by simp [hf], fun _ => rfl, by simp, ?_⟩
          rw [h]; exact hq
        · rename_i hf
          split at h
          · rename_i hc
            simp only [Option.some.injEq] at h
            simp only [Bool.and_eq_true, Bool.or_eq_true, List.all_eq_true, decide_eq_true_eq] at hc
            refine ⟨args.flatMap (rch σ DEEP), by simp [hf], fun hfs => ?_, hc.2, ?_⟩
            · rcases hc.1 with h1 | h1
              · rw [hfs] at h1; cases h1
              · simpa using h1
            · rw [h]; exact hq
          · cases h
      · cases h
  cases hmode : T.mode f <;> simp only [hmode] at h ⊢
  case raw =>
    split at h
    · rename_i hfs
      refine ⟨hfs, ?_⟩
      split at h
      · rename_i v1 σ1 n1 hrec
        simp only [Option.some.injEq, Prod.mk.injEq] at h
        obtain ⟨rfl, rfl, rfl⟩ := h
        exact hm _ _ _ (fun o ho => by subst ho; exact hq) (hr _ _ hrec)
      · cases h
    · cases h
  all_goals exact pure h

theorem exYield_sound (hm : MonoC C) (hr : ∀ j o, rec j = some o → C j (fun o' => o' = o)) {l : Nat} {args : List V} {σ σ' : Sto} {n n' lk : Nat} {v : V}
    (h : exYield rec l args σ n lk = some (v, σ', n')) {Q : V → Sto → Nat → Prop} (hq : Q v σ' n') : yieldW C l args σ n lk Q := by
  unfold exYield at h
  unfold yieldW
  split at h
  · rename_i env ps assign body pend hrow0
    simp only [hrow0]
    split at h
    · rename_i hc
      refine ⟨hc.1, hc.2, ?_⟩
      split at h
      · rename_i ex σ1 n1 hrec
        split at h
        · rename_i env2 ps2 a2 b2 pend2 hrow
          simp only [Option.some.injEq, Prod.mk.injEq] at h
          obtain ⟨rfl, rfl, rfl⟩ := h
          exact hm _ _ _ (fun o ho => by subst ho; exact ⟨env2, ps2, a2, b2, pend2, hrow, hq⟩) (hr _ _ hrec)
        · cases h
      · cases h
    · cases h
  · cases h

theorem exOp_sound (hm : MonoC C) (hr : ∀ j o, rec j = some o → C j (fun o' => o' = o)) {fs : Bool} {ρ : Opd → V} {σ σ' : Sto} {n n' lk : Nat} {ai : AI} {v : V}
    (h : exOp T rec fs ρ σ n lk ai = some (v, σ', n')) {Q : V → Sto → Nat → Prop} (hq : Q v σ' n') : opW T C fs ρ σ n lk ai Q := by
  unfold exOp at h
  split at h
  · simp only [opW]; exact exCall_sound hm hr h hq
  · simp only [opW]
    split at h
    · rename_i hg; simp only [hg]; exact exCall_sound hm hr h hq
    · rename_i hg; simp only [hg]; exact exCall_sound hm hr h hq
    · rename_i hg
      simp only [hg]
      split at h
      · rename_i hfs; exact ⟨hfs, exYield_sound hm hr h hq⟩
      · cases h
    · cases h
  · simp only [opW]
    split at h
    · rename_i hfs
      refine ⟨hfs, ?_⟩
      split at h
      · rename_i hi; simp only [hi]; exact exCall_sound hm hr h hq
      · cases h
    · cases h
  · rename_i h1 h2 h3
    unfold opW
    split
    · exact absurd rfl (h1 _ _)
    · exact absurd rfl (h2 _ _)
    · exact absurd rfl (h3 _ _ _)
    · rw [h]; exact hq

theorem exR_sound (hm : MonoC C) (hr : ∀ j o, rec j = some o → C j (fun o' => o' = o)) : ∀ (ops : List AOp) (s s' : St) (Q : St → Prop), exR T rec ops s = some s' → Q s' → wpR T C ops s Q
  | [], s, s', Q, h, hq => by simp only [exR, Option.some.injEq] at h; subst h; exact hq
  | o :: ops, s, s', Q, h, hq => by
    simp only [exR] at h
    simp only [wpR]
    split at h
    · rename_i hw
      rw [if_pos hw]
      split at h
      · rename_i v σ1 n1 he
        exact exOp_sound hm hr he (exR_sound hm hr ops _ s' Q h hq)
      · cases h
    · rename_i hw
      rw [if_neg hw]
      exact exR_sound hm hr ops _ s' Q h hq

theorem exD_sound (hm : MonoC C) (hr : ∀ j o, rec j = some o → C j (fun o' => o' = o)) (n0 : Nat) : ∀ (ops : List DOp) (s s' : St) (Q : St → Prop), exD T rec n0 ops s = some s' → Q s' → wpD T C n0 ops s Q
  | [], s, s', Q, h, hq => by simp only [exD, Option.some.injEq] at h; subst h; exact hq
  | d :: ds, s, s', Q, h, hq => by
    simp only [exD] at h
    simp only [wpD]
    split at h
    · rename_i hw
      rw [if_pos hw]
      split at h
      · rename_i v σ1 n1 he
        by_cases hle : n1 ≤ n0 + BIG * d.rank + (if d.lays then BIG else 0)
        · rw [if_pos hle] at h
          exact exOp_sound hm hr he ⟨hle, exD_sound hm hr n0 ds _ s' Q h hq⟩
        · rw [if_neg hle] at h; cases h
      · cases h
    · rename_i hw
      rw [if_neg hw]
      exact exD_sound hm hr n0 ds _ s' Q h hq

theorem exS_sound (hm : MonoC C) (hr : ∀ j o, rec j = some o → C j (fun o' => o' = o)) : ∀ (segs : List Seg) (s s' : St) (Q : St → Prop), exS T rec segs s = some s' → Q s' → wpS T C segs s Q
  | [], s, s', Q, h, hq => by simp only [exS, Option.some.injEq] at h; subst h; exact hq
  | g :: gs, s, s', Q, h, hq => by
    simp only [exS] at h
    simp only [wpS]
    split at h
    · rename_i s1 h1
      split at h
      · rename_i s2 h2
        exact exD_sound hm hr s.n g.ds s s1 _ h1 (exR_sound hm hr g.ops _ s2 _ h2 (exS_sound hm hr gs s2 s' Q h hq))
      · cases h
    · cases h

theorem exLoop_sound (hm : MonoC C) {c : AC} {B : St → Option (Ex × St)} (hB : ∀ s ex s' (Q : Ex → St → Prop), B s = some (ex, s') → Q ex s' → wpC T C c s Q) :
    ∀ (k : Nat) (s : St) (ex : Ex) (s' : St) (Q : Ex → St → Prop), exLoop B k s = some (ex, s') → Q ex s' → loopW (wpC T C c) s Q
  | 0, s, ex, s', Q, h, _ => by simp [exLoop] at h
  | k + 1, s, ex, s', Q, h, hq => by
    simp only [exLoop] at h
    refine loopW_step (fun s Q Q' hQ h => wpC_mono (fun _ _ h => h) hm c s Q Q' hQ h) ?_
    split at h
    · rename_i s1 h1
      exact hB s .normal s1 _ h1 (exLoop_sound hm hB k s1 ex s' Q h hq)
    · rename_i hne
      refine hB s ex s' _ h ?_
      cases ex with
      | normal => exact absurd h (hne s')
      | exit i => exact hq
      | ret => exact hq

theorem exC_sound (hm : MonoC C) (hr : ∀ j o, rec j = some o → C j (fun o' => o' = o)) (k : Nat) : ∀ (c : AC) (s : St) (ex : Ex) (s' : St) (Q : Ex → St → Prop), exC T rec k c s = some (ex, s') → Q ex s' → wpC T C c s Q
  | .skip, s, ex, s', Q, h, hq => by
    simp only [exC, Option.some.injEq, Prod.mk.injEq] at h; obtain ⟨rfl, rfl⟩ := h; exact hq
  | .reg ops, s, ex, s', Q, h, hq => by
    simp only [exC, Option.map_eq_some_iff, Prod.mk.injEq] at h
    obtain ⟨s1, h1, rfl, rfl⟩ := h
    exact exR_sound hm hr ops s s1 _ h1 hq
  | .regd segs, s, ex, s', Q, h, hq => by
    simp only [exC, Option.map_eq_some_iff, Prod.mk.injEq] at h
    obtain ⟨s1, h1, rfl, rfl⟩ := h
    exact exS_sound hm hr segs s s1 _ h1 hq
  | .seq a b, s, ex, s', Q, h, hq => by
    simp only [exC] at h
    simp only [wpC]
    split at h
    · rename_i s1 h1
      exact exC_sound hm hr k a s _ s1 _ h1 (exC_sound hm hr k b s1 ex s' Q h hq)
    · rename_i hne
      refine exC_sound hm hr k a s ex s' _ h ?_
      cases ex with
      | normal => exact absurd h (hne s')
      | exit i => exact hq
      | ret => exact hq
  | .cond x a b, s, ex, s', Q, h, hq => by
    simp only [exC] at h
    simp only [wpC]
    split at h
    · rename_i hx; rw [hx]; exact exC_sound hm hr k a s ex s' Q h hq
    · rename_i hx; rw [hx]; exact exC_sound hm hr k b s ex s' Q h hq
    · cases h
  | .block id c, s, ex, s', Q, h, hq => by
    simp only [exC] at h
    simp only [wpC]
    split at h
    · rename_i i s1 h1
      refine exC_sound hm hr k c s _ s1 _ h1 ?_
      simp only [blockW]
      split at h <;> rename_i hi <;> simp only [Option.some.injEq, Prod.mk.injEq] at h <;> obtain ⟨rfl, rfl⟩ := h
      · rw [if_pos hi]; exact hq
      · rw [if_neg hi]; exact hq
    · rename_i hne
      refine exC_sound hm hr k c s ex s' _ h ?_
      cases ex with
      | normal => exact hq
      | exit i => exact absurd h (hne i s')
      | ret => exact hq
  | .loop c, s, ex, s', Q, h, hq => by
    simp only [exC] at h
    simp only [wpC]
    exact exLoop_sound hm (fun s ex s' Q h hq => exC_sound hm hr k c s ex s' Q h hq) k s ex s' Q h hq
  | .rangeF g ps assign body, s, ex, s', Q, h, hq => by
    simp only [exC] at h
    simp only [wpC, rangeW]
    split at h
    · rename_i f caps hg
      rw [hg]
      split at h
      · rename_i hlk
        refine ⟨hlk, ?_⟩
        split at h
        · rename_i v σ1 n1 hrec
          split at h
          · rename_i env a b c pend hrow
            simp only [Option.some.injEq, Prod.mk.injEq] at h
            obtain ⟨rfl, rfl⟩ := h
            exact hm _ _ _ (fun o ho => by subst ho; simp only [hrow]; exact ⟨by simp, hq⟩) (hr _ _ hrec)
          · rename_i env a b c pend hrow
            simp only [Option.some.injEq, Prod.mk.injEq] at h
            obtain ⟨rfl, rfl⟩ := h
            exact hm _ _ _ (fun o ho => by subst ho; simp only [hrow]; exact ⟨by simp, hq⟩) (hr _ _ hrec)
          · cases h
        · cases h
      · cases h
    · cases h
  | .exit id, s, ex, s', Q, h, hq => by
    simp only [exC, Option.some.injEq, Prod.mk.injEq] at h; obtain ⟨rfl, rfl⟩ := h; exact hq
  | .ret, s, ex, s', Q, h, hq => by
    simp only [exC, Option.some.injEq, Prod.mk.injEq] at h; obtain ⟨rfl, rfl⟩ := h; exact hq

end

/-- What a run of the evaluator comes to, calls come to. -/
theorem exJob_sound {T : Tab} : ∀ (k : Nat) (j : Job) (o : Out), exJob T k j = some o → run T j (fun o' => o' = o)
  | 0, j, o, h => by simp [exJob] at h
  | k + 1, .pure f args, o, h => by
    have ih := exJob_sound (T := T) k
    simp only [exJob] at h
    refine run_step ?_
    split at h
    · rename_i fn hfn
      split at h
      · rename_i hc
        refine ⟨fn, hfn, hc.1, hc.2, ?_⟩
        split at h
        · rename_i ex s hex
          refine exC_sound run_mono ih k _ _ ex s _ hex ?_
          split at h
          · rename_i hend
            simp only [Option.bind_eq_some_iff] at h
            obtain ⟨v, hv, h⟩ := h
            refine ⟨hend, v, hv, ?_⟩
            split at h
            · rename_i hown
              split at h
              · rename_i hnd
                simp only [Option.map_eq_some_iff] at h
                obtain ⟨r, hr, rfl⟩ := h
                exact ⟨r, by simp only [back, hown]; exact ⟨hr, hnd⟩, rfl⟩
              · cases h
            · rename_i hown
              simp only [Option.map_eq_some_iff] at h
              obtain ⟨r, hr, rfl⟩ := h
              refine ⟨r, ?_, rfl⟩
              unfold back
              split
              · rename_i hm; exact absurd hm hown
              · exact hr
          · cases h
        · cases h
      · cases h
    · cases h
  | k + 1, .raw f args σ n lk, o, h => by
    have ih := exJob_sound (T := T) k
    simp only [exJob] at h
    refine run_step ?_
    split at h
    · rename_i fn hfn
      split at h
      · rename_i hc
        refine ⟨fn, hfn, hc, ?_⟩
        split at h
        · rename_i ex s hex
          refine exC_sound run_mono ih k _ _ ex s _ hex ?_
          split at h
          · rename_i hend
            simp only [Option.map_eq_some_iff] at h
            obtain ⟨v, hv, rfl⟩ := h
            exact ⟨hend, v, hv, rfl⟩
          · cases h
        · cases h
      · cases h
    · cases h
  | k + 1, .round l env a b σ n lk, o, h => by
    have ih := exJob_sound (T := T) k
    simp only [exJob] at h
    refine run_step ?_
    split at h
    · rename_i s hs
      refine exC_sound run_mono ih k _ _ _ s _ hs ?_
      refine ⟨rfl, ?_⟩
      split at h
      · rename_i env' ps a' b' pend hrow
        refine ⟨env', ps, a', b', pend, hrow, ?_⟩
        split at h
        · rename_i ex s' hs'
          refine exC_sound run_mono ih k _ _ ex s' _ hs' ?_
          split at h
          · rename_i e2 p2 a2 b2 d2 hrow2
            simp only [Option.some.injEq] at h
            exact ⟨⟨_, _, _, _, _, hrow2⟩, h⟩
          · cases h
        · cases h
      · cases h
    · cases h

end Go.Q
end

section
/- Code is cut in parts: what holds between them. -/
set_option linter.unusedSimpArgs false
set_option linter.unusedVariables false
namespace Go.Q
variable {T : Tab}

theorem WR_mono : ∀ (ops : List AOp) (env : Nat → V) (σ : Sto) (n lk : Nat) (Q Q' : St → Prop), (∀ s, Q s → Q' s) → WR T ops env σ n lk Q → WR T ops env σ n lk Q'
  | [], env, σ, n, lk, Q, Q', hq, h => hq _ h
  | o :: ops, env, σ, n, lk, Q, Q', hq, h => by
    obtain ⟨v, σ', n', he, hk⟩ := bindE_out h
    simp only [WR, he, bindE]
    exact WR_mono ops _ _ _ _ _ _ hq hk

theorem WD_mono (n0 : Nat) : ∀ (ds : List DOp) (env : Nat → V) (σ : Sto) (lk : Nat) (Q Q' : AfterD), (∀ env σ, Q env σ → Q' env σ) → WD T n0 ds env σ lk Q → WD T n0 ds env σ lk Q'
  | [], env, σ, lk, Q, Q', hq, h => hq _ _ h
  | d :: ds, env, σ, lk, Q, Q', hq, h => by
    obtain ⟨v, σ', n', he, hk⟩ := bindE_out h
    simp only [WD, he, bindE]
    exact WD_mono n0 ds _ _ _ _ _ hq hk

theorem WS_mono : ∀ (gs : List Seg) (env : Nat → V) (σ : Sto) (n lk : Nat) (Q Q' : St → Prop), (∀ s, Q s → Q' s) → WS T gs env σ n lk Q → WS T gs env σ n lk Q'
  | [], env, σ, n, lk, Q, Q', hq, h => hq _ h
  | g :: gs, env, σ, n, lk, Q, Q', hq, h =>
    WD_mono n g.ds env σ lk _ _ (fun env' σ' hh => WR_mono g.ops _ _ _ _ _ _ (fun s hs => WS_mono gs _ _ _ _ _ _ hq hs) hh) h

theorem WC_mono : ∀ (c : AC) (env : Nat → V) (σ : Sto) (n lk : Nat) (Q Q' : Ex → St → Prop), (∀ e s, Q e s → Q' e s) → WC T c env σ n lk Q → WC T c env σ n lk Q'
  | .skip, env, σ, n, lk, Q, Q', hq, h => hq _ _ h
  | .reg ops, env, σ, n, lk, Q, Q', hq, h => WR_mono ops env σ n lk _ _ (fun s hs => hq _ s hs) h
  | .regd gs, env, σ, n, lk, Q, Q', hq, h => WS_mono gs env σ n lk _ _ (fun s hs => hq _ s hs) h
  | .seq a b, env, σ, n, lk, Q, Q', hq, h => by
    simp only [WC] at h ⊢
    refine WC_mono a env σ n lk _ _ (fun e s hh => ?_) h
    cases e
    · exact WC_mono b _ _ _ _ _ _ hq hh
    · exact hq _ _ hh
    · exact hq _ _ hh
  | .cond x a b, env, σ, n, lk, Q, Q', hq, h => by
    simp only [WC] at h ⊢
    unfold condW at h ⊢
    split at h
    · exact WC_mono a _ _ _ _ _ _ hq h
    · exact WC_mono b _ _ _ _ _ _ hq h
    · exact h.elim
  | .block id c, env, σ, n, lk, Q, Q', hq, h => by
    refine WC_mono c env σ n lk _ _ (fun e s hh => ?_) h
    cases e <;> simp only [blockW] at hh ⊢
    · exact hq _ _ hh
    · split at hh <;> rename_i hi <;> simp only [hi, if_true, if_false]
      · exact hq _ _ hh
      · exact hq _ _ hh
    · exact hq _ _ hh
  | .loop c, env, σ, n, lk, Q, Q', hq, h => wpC_mono (fun _ _ x => x) run_mono (.loop c) _ _ _ hq h
  | .rangeF g ps x y, env, σ, n, lk, Q, Q', hq, h => wpC_mono (fun _ _ x => x) run_mono (.rangeF g ps x y) _ _ _ hq h
  | .exit id, env, σ, n, lk, Q, Q', hq, h => hq _ _ h
  | .ret, env, σ, n, lk, Q, Q', hq, h => hq _ _ h

theorem upd_self (σ : Sto) (i : Nat) (o : Option Ob) : upd σ i o i = o := by simp [upd]
theorem upd_ne {σ : Sto} {i j : Nat} {o : Option Ob} (h : i ≠ j) : upd σ j o i = σ i := by simp [upd, h]
/-- What holds behind a part is enough for what comes. -/
theorem WC_cut {c : AC} {env : Nat → V} {σ : Sto} {n lk : Nat} {Q : Ex → St → Prop} (M : (Nat → V) → Sto → Nat → Prop)
    (h : WC T c env σ n lk (lpQ (fun env' σ' n' lk' => lk' = lk ∧ M env' σ' n') Q)) (hM : ∀ env σ n, M env σ n → Q .normal ⟨env, σ, n, lk⟩) : WC T c env σ n lk Q := by
  refine WC_mono c env σ n lk _ _ (fun e s hh => ?_) h
  obtain ⟨env', σ', n', lk'⟩ := s
  cases e
  · rw [lpQ_normal] at hh
    obtain ⟨rfl, hh⟩ := hh
    exact hM _ _ _ hh
  · exact hh
  · exact hh
theorem condC_cut {x : Bool} {a b : AC} {env : Nat → V} {σ : Sto} {n lk : Nat} {Q : Ex → St → Prop} (M : (Nat → V) → Sto → Nat → Prop)
    (h : x = true → WC T a env σ n lk (lpQ (fun env' σ' n' lk' => lk' = lk ∧ M env' σ' n') Q)) (h' : x = false → WC T b env σ n lk (lpQ (fun env' σ' n' lk' => lk' = lk ∧ M env' σ' n') Q))
    (hM : ∀ env σ n, M env σ n → Q .normal ⟨env, σ, n, lk⟩) : condC T (.bool x) a b env σ n lk Q :=
  condC_split (fun e => WC_cut M (h e) hM) (fun e => WC_cut M (h' e) hM)

/-- A slice that is being built, out of certain objects: nil, or a row of the store's, whole. -/
def Bls (σ : Sto) (sz : Nat) (v : V) (o : Option (List V)) (S : Nat → Prop) : Prop := match o with
  | none => v = .nilS
  | some ts => ∃ i xs, v = .ref i 0 xs.length sz ∧ σ i = some (.row sz xs) ∧ S i ∧ FzL σ 11 xs ts (fun j => S j ∧ j ≠ i)

section
variable {σ σ' : Sto} {sz : Nat} {v : V} {o : Option (List V)} {S S' : Nat → Prop}
theorem Bls.loc (h : Bls σ sz v o S) (hs : ∀ i, S i → σ' i = σ i) (hS : ∀ i, S i → S' i) : Bls σ' sz v o S' := by
  cases o with
  | none => exact h
  | some ts =>
    obtain ⟨i, xs, rfl, h1, h2, h3⟩ := h
    exact ⟨i, xs, rfl, by rw [hs i h2, h1], hS i h2, h3.loc (fun j hj => hs j hj.1) (fun j hj => ⟨hS j hj.1, hj.2⟩)⟩
theorem Bls.frz (h : Bls σ sz v o S) : frz σ 12 v = some (slV sz id o) := by
  cases o with
  | none => simp only [Bls] at h; subst h; rfl
  | some ts =>
    obtain ⟨i, xs, rfl, h1, h2, h3⟩ := h
    have := Fz.ref (S := fun _ => True) h1 trivial (h3.loc (fun _ _ => rfl) (fun _ _ => trivial))
    simpa [slV] using this.1
theorem Bls.rch (h : Bls σ sz v o S) : ∀ i ∈ rch σ 12 v, S i := by
  cases o with
  | none => simp only [Bls] at h; subst h; intro i hi; simp [Go.Q.rch] at hi
  | some ts =>
    obtain ⟨i, xs, rfl, h1, h2, h3⟩ := h
    exact (Fz.ref (S := S) h1 h2 (h3.loc (fun _ _ => rfl) (fun _ h => h.1))).2
theorem Bls.lenE (h : Bls σ sz v o S) : lenE v = some (.int .i64 ((lst o).length : Int)) := by
  cases o with
  | none => simp only [Bls] at h; subst h; rfl
  | some ts =>
    obtain ⟨i, xs, rfl, h1, h2, h3⟩ := h
    rw [lenE_ref, lst_some, h3.length]
theorem Bls.cells (h : Bls σ sz v o S) : v.cells = [v] := by
  cases o with
  | none => simp only [Bls] at h; subst h; rfl
  | some ts => obtain ⟨i, xs, rfl, -⟩ := h; rfl
theorem Bls.one (h : Bls σ sz v o S) : v.one = true := by
  cases o with
  | none => simp only [Bls] at h; subst h; rfl
  | some ts => obtain ⟨i, xs, rfl, -⟩ := h; rfl

/-- More is put behind it. -/
theorem Bls.append {n : Nat} (h : Bls σ sz v o S) (hS : ∀ j, S j → j < n) (hSS : ∀ j, S j → S' j) (hn : S' n) {bytes : Nat} {ys us : List V}
    (hy : FzL σ 11 ys us (fun j => S' j ∧ j < n ∧ ∀ off len s, v ≠ .ref j off len s)) (hl : ((lst o).length + us.length) * bytes ≤ LIM) :
    ∃ v' σ' n', appendE sz bytes 0 v (some ys) σ n = some (v', σ', n') ∧ Bls σ' sz v' (appO o us) (fun i => S' i ∧ i < n') ∧ n ≤ n' ∧ n' ≤ n + 1 ∧ (∀ i, i < n → (∀ off len s, v ≠ .ref i off len s) → σ' i = σ i) := by
  have hlen := hy.length
  cases o with
  | none =>
    simp only [Bls] at h
    subst h
    rw [appendE_nil]
    cases ys with
    | nil =>
      have : us = [] := by simpa using hlen
      subst this
      exact ⟨_, _, _, rfl, rfl, Nat.le_refl _, by omega, fun _ _ _ => rfl⟩
    | cons y ys =>
      simp only [lst_none, List.length_nil, Nat.zero_add] at hl
      rw [hlen] at hl
      simp only [List.isEmpty_cons, Bool.false_eq_true, if_false, hl, if_true]
      refine ⟨_, _, _, rfl, ?_, by omega, by omega, fun i hi _ => by simp [upd]; omega⟩
      have ho : appO none us = some us := by
        cases us with
        | nil => simp at hlen
        | cons u us => rfl
      rw [ho]
      exact ⟨n, y :: ys, rfl, by simp [upd], ⟨hn, by omega⟩, hy.loc (fun j hj => by simp [upd]; omega) (fun j hj => ⟨⟨hj.1, by omega⟩, by omega⟩)⟩
  | some ts =>
    obtain ⟨i, xs, rfl, h1, h2, h3⟩ := h
    have hx := h3.length
    simp only [lst_some, hx, hlen] at hl
    rw [appendE_ref, h1, appE_row', if_pos ⟨.inl rfl, by omega, hl⟩, if_pos rfl]
    refine ⟨_, _, _, rfl, ?_, by omega, by omega, fun j hj hv => ?_⟩
    · simp only [appO]
      have e1 : xs.length + ys.length = (xs ++ ys).length := by simp
      rw [e1]
      refine ⟨n, xs ++ ys, rfl, by simp [upd], ⟨hn, by omega⟩, ?_⟩
      refine FzL.append (h3.loc (fun j hj => ?_) (fun j hj => ⟨⟨hSS j hj.1, by have := hS j hj.1; omega⟩, by have := hS j hj.1; omega⟩)) (hy.loc (fun j hj => ?_) (fun j hj => ⟨⟨hj.1, by omega⟩, by omega⟩))
      · have a1 : j ≠ n := by have := hS j hj.1; omega
        simp [upd, a1, hj.2]
      · have a1 : j ≠ n := by omega
        have a2 : j ≠ i := fun e => hj.2.2 0 xs.length sz (by rw [e])
        simp [upd, a1, a2]
    · have a1 : j ≠ n := by omega
      have a2 : j ≠ i := fun h => hv 0 xs.length sz (by rw [h])
      simp [upd, a1, a2]
theorem stepW_appS {T : Tab} {n : Nat} (h : Bls σ sz v o S) (hS : ∀ j, S j → j < n) (hSS : ∀ j, S j → S' j) (hn : S' n) {bytes : Nat} {ys us : List V}
    (hy : FzL σ 11 ys us (fun j => S' j ∧ j < n ∧ ∀ off len s, v ≠ .ref j off len s)) (hl : ((lst o).length + us.length) * bytes ≤ LIM) {d : Option Nat} {ops : List AOp} {env : Nat → V} {lk : Nat} {Q : St → Prop}
    (hnext : ∀ v' σ' n', Bls σ' sz v' (appO o us) (fun i => S' i ∧ i < n') → n ≤ n' → n' ≤ n + 1 → (∀ i, i < n → (∀ off len s, v ≠ .ref i off len s) → σ' i = σ i) → WR T ops (ptO env d v') σ' n' lk Q) :
    stepW T (appendE sz bytes 0 v (some ys) σ n) d ops env lk Q := by
  obtain ⟨v', σ', n', h1, h2, h3, h4, h5⟩ := h.append hS hSS hn hy hl
  rw [h1, stepW_some]
  exact hnext v' σ' n' h2 h3 h4 h5
end

/-- A row under way that holds no other rows. -/
def Fl (σ : Sto) (sz : Nat) (v : V) (o : Option (List V)) (S : Nat → Prop) : Prop := match o with
  | none => v = .nilS
  | some xs => ∃ i, v = .ref i 0 xs.length sz ∧ σ i = some (.row sz xs) ∧ S i

section
variable {σ σ' : Sto} {sz : Nat} {v : V} {o : Option (List V)} {S S' : Nat → Prop}
theorem Fl.loc (h : Fl σ sz v o S) (hs : ∀ i, S i → σ' i = σ i) (hS : ∀ i, S i → S' i) : Fl σ' sz v o S' := by
  cases o with
  | none => exact h
  | some ts =>
    obtain ⟨i, rfl, h1, h2⟩ := h
    exact ⟨i, rfl, by rw [hs i h2, h1], hS i h2⟩
theorem Fl.lenE (h : Fl σ sz v o S) : lenE v = some (.int .i64 ((lst o).length : Int)) := by
  cases o with
  | none => simp only [Fl] at h; subst h; rfl
  | some ts =>
    obtain ⟨i, rfl, h1, h2⟩ := h
    rw [lenE_ref, lst_some]
theorem Fl.cells (h : Fl σ sz v o S) : v.cells = [v] := by
  cases o with
  | none => simp only [Fl] at h; subst h; rfl
  | some ts => obtain ⟨i, rfl, -⟩ := h; rfl
theorem Fl.one (h : Fl σ sz v o S) : v.one = true := by
  cases o with
  | none => simp only [Fl] at h; subst h; rfl
  | some ts => obtain ⟨i, rfl, -⟩ := h; rfl
theorem stepW_appF {T : Tab} {n : Nat} (h : Fl σ sz v o S) (hS : ∀ j, S j → j < n) (hn : S' n) {bytes : Nat} {ys : List V} (hl : ((lst o).length + ys.length) * bytes ≤ LIM) {d : Option Nat} {ops : List AOp} {env : Nat → V} {lk : Nat} {Q : St → Prop}
    (hnext : ∀ v' σ' n', Fl σ' sz v' (appO o ys) (fun i => S' i ∧ n ≤ i ∧ i < n') → n ≤ n' → n' ≤ n + 1 → (∀ i, i < n → (∀ off len s, v ≠ .ref i off len s) → σ' i = σ i) → (∀ i off len s, v' = .ref i off len s → n ≤ i) → WR T ops (ptO env d v') σ' n' lk Q) :
    stepW T (appendE sz bytes 0 v (some ys) σ n) d ops env lk Q := by
  cases o with
  | none =>
    simp only [Fl] at h
    subst h
    rw [appendE_nil]
    cases ys with
    | nil => exact hnext _ _ _ rfl (Nat.le_refl _) (by omega) (fun _ _ _ => rfl) (fun _ _ _ _ h => by cases h)
    | cons y ys =>
      simp only [lst_none, List.length_nil, Nat.zero_add] at hl
      simp only [List.isEmpty_cons, Bool.false_eq_true, if_false, hl, if_true, stepW_some]
      exact hnext _ _ _ ⟨n, rfl, by simp [upd], hn, by omega, by omega⟩ (by omega) (by omega) (fun i hi _ => by simp [upd]; omega) (fun _ _ _ _ h => by cases h; exact Nat.le_refl _)
  | some xs =>
    obtain ⟨i, rfl, h1, h2⟩ := h
    simp only [lst_some] at hl
    have := hS i h2
    rw [appendE_ref, h1, appE_row', if_pos ⟨.inl rfl, by omega, hl⟩, if_pos rfl, stepW_some]
    refine hnext _ _ _ ⟨n, by rw [List.length_append], by simp [upd], hn, by omega, by omega⟩ (by omega) (by omega) (fun j hj hv => ?_) (fun _ _ _ _ h => by cases h; exact Nat.le_refl _)
    have a1 : j ≠ n := by omega
    have a2 : j ≠ i := fun h => hv 0 xs.length sz (by rw [h])
    simp [upd, a1, a2]
end

/-- Which object a slice stands on. -/
def hasId (v : V) (i : Nat) : Prop := ∃ o l s, v = .ref i o l s
theorem hasId_not {v : V} {i : Nat} (h : ¬ hasId v i) : ∀ o l s, v ≠ .ref i o l s := fun o l s e => h ⟨o, l, s, e⟩
theorem Fl.ids {σ : Sto} {sz : Nat} {v : V} {o : Option (List V)} {S : Nat → Prop} (h : Fl σ sz v o S) {i : Nat} (hi : hasId v i) : S i := by
  obtain ⟨a, b, c, e⟩ := hi
  cases o with
  | none => simp only [Fl] at h; rw [h] at e; cases e
  | some ts => obtain ⟨j, rfl, -, h2⟩ := h; cases e; exact h2
theorem Bls.ids {σ : Sto} {sz : Nat} {v : V} {o : Option (List V)} {S : Nat → Prop} (h : Bls σ sz v o S) {i : Nat} (hi : hasId v i) : S i := by
  obtain ⟨a, b, c, e⟩ := hi
  cases o with
  | none => simp only [Bls] at h; rw [h] at e; cases e
  | some ts => obtain ⟨j, xs, rfl, -, h2, -⟩ := h; cases e; exact h2
theorem Fl.self {σ : Sto} {sz : Nat} {v : V} {o : Option (List V)} {S : Nat → Prop} (h : Fl σ sz v o S) : Fl σ sz v o (fun i => S i ∧ hasId v i) := by
  cases o with
  | none => exact h
  | some ts => obtain ⟨j, e, h1, h2⟩ := h; exact ⟨j, e, h1, h2, _, _, _, e⟩

/-- A block is left at its end alone: what holds there. -/
theorem WC_cutB {T : Tab} {c : AC} {env : Nat → V} {σ : Sto} {n lk b : Nat} {R : Ex → St → Prop} (M : (Nat → V) → Sto → Nat → Prop) (h : WC T c env σ n lk (exQ b lk M)) (hM : ∀ env σ n, M env σ n → R .normal ⟨env, σ, n, lk⟩) :
    WC T c env σ n lk (blockW b R) := by
  refine WC_mono c env σ n lk _ _ (fun e s hh => ?_) h
  cases e with
  | exit i =>
    obtain ⟨env', σ', n', lk'⟩ := s
    obtain ⟨rfl, h2, h3⟩ := hh
    simp only at h2
    subst h2
    simp only [blockW, if_true]
    exact hM _ _ _ h3
  | _ => exact hh.elim

/-- Nil, or a list. -/
def oL {α : Type} : List α → Option (List α)
  | [] => none
  | x :: l => some (x :: l)
theorem lst_oL {α : Type} (l : List α) : lst (oL l) = l := by cases l <;> rfl
theorem appO_oL {α : Type} (a b : List α) : appO (oL a) b = oL (a ++ b) := by
  cases a <;> cases b <;> simp [appO, oL]
theorem oL_map {α β : Type} (f : α → β) (l : List α) : (oL l).map (List.map f) = oL (l.map f) := by cases l <;> rfl
theorem slV_oL {β : Type} (sz : Nat) (f : β → V) (l : List β) : slV sz id (oL (l.map f)) = slV sz f (oL l) := by rw [← oL_map, slV_map]
end Go.Q
end
