/- Values read out of the store as trees, and rows handed over: they stand. -/
import Derived.Test.YtaigdfomoplchaaQvRep
import Derived.Test.YtaigdfomoplchaaQvRun
set_option linter.unusedSimpArgs false
set_option linter.unusedVariables false
set_option linter.unusedSectionVars false
namespace Go.Q
variable [Link]

theorem mapM_get' {α β : Type} (f : α → Option β) : ∀ (l : List α) (m : List β), l.mapM f = some m → l.length = m.length ∧ ∀ (i : Nat) (a : α) (b : β), l[i]? = some a → m[i]? = some b → f a = some b
  | [], m, h => by simp at h; subst h; simp
  | a :: l, m, h => by
    simp only [List.mapM_cons, Option.pure_def, Option.bind_eq_bind, Option.bind_eq_some_iff, Option.some.injEq] at h
    obtain ⟨b, hb, m', hm, rfl⟩ := h
    obtain ⟨h1, h2⟩ := mapM_get' f l m' hm
    refine ⟨by simp [h1], fun i a' b' ha hb' => ?_⟩
    cases i with
    | zero => simp at ha hb'; subst ha; subst hb'; exact hb
    | succ i => exact h2 i a' b' (by simpa using ha) (by simpa using hb')

/-- The i-th of a row of images comes from the i-th. -/
theorem mapM_back {α β : Type} {f : α → Option β} {l : List α} {m : List β} (h : l.mapM f = some m) {i : Nat} {b : β} (hb : m[i]? = some b) :
    ∃ a, l[i]? = some a ∧ f a = some b := by
  obtain ⟨h1, h2⟩ := mapM_get' f l m h
  have hi : i < m.length := (List.getElem?_eq_some_iff.1 hb).1
  exact ⟨l[i], List.getElem?_eq_getElem (by omega), h2 i _ _ (List.getElem?_eq_getElem (by omega)) hb⟩

theorem not_agg_cells {v : V} (h : ∀ cs, v ≠ .agg cs) : v.cells = [v] := by
  cases v <;> first | rfl | exact absurd rfl (h _)

theorem one_cells {v : V} (h : v.one = true) : v.cells = [v] := by
  cases v <;> first | rfl | simp [V.one] at h

theorem elemM_spec {f : V → Option V} (hf : ∀ v t, f v = some t → v.one = true → t.one = true) {x y : V} (h : elemM f x = some y) (h1 : x.cells.all V.one = true) :
    y.cells.length = x.cells.length ∧ y.cells.all V.one = true ∧ ∀ (j : Nat) (e' : V), y.cells[j]? = some e' → ∃ e, x.cells[j]? = some e ∧ f e = some e' := by
  unfold elemM at h
  split at h
  · rename_i cs
    simp only [Option.map_eq_some_iff] at h
    obtain ⟨cs', hm, rfl⟩ := h
    refine ⟨(mapM_get' f cs cs' hm).1.symm, ?_, fun j e' he => mapM_back hm he⟩
    rw [List.all_eq_true]
    intro e' he'
    obtain ⟨i, hi, rfl⟩ := List.getElem_of_mem he'
    obtain ⟨e, he, hfe⟩ := mapM_back hm (List.getElem?_eq_getElem hi)
    exact hf _ _ hfe (List.all_eq_true.1 h1 e (List.mem_of_getElem? he))
  · rename_i hx
    have hc := not_agg_cells hx
    rw [hc] at h1 ⊢
    have hxo : x.one = true := by simpa using h1
    have hyo := hf _ _ h hxo
    rw [one_cells hyo]
    refine ⟨rfl, by simpa using hyo, fun j e' he => ?_⟩
    cases j with
    | zero => simp at he; subst he; exact ⟨x, rfl, h⟩
    | succ j => simp at he

theorem frz_one {σ : Sto} {k : Nat} {v t : V} (h : frz σ k v = some t) (h1 : v.one = true) : t.one = true := by
  cases k with
  | zero => simp [frz] at h
  | succ k =>
    cases v <;> simp only [frz, Option.some.injEq, Option.map_eq_some_iff, Option.bind_eq_some_iff, reduceCtorEq] at h <;> (try simp [V.one] at h1) <;>
      first
        | (subst h; rfl)
        | (obtain ⟨_, _, _, _, rfl⟩ := h; rfl)
        | (obtain ⟨_, _, rfl⟩ := h; rfl)

section
variable {w w' : World} {X X' : Nat → Prop} {ι ι' : Nat → Nat} {σ σ' : Sto} {n n' lk : Nat}

/-- The blocks that are left when objects fall out. -/
def cutX (X : Nat → Prop) (ι : Nat → Nat) (σ : Sto) (D : List Nat) : Nat → Prop := fun b => X b ∧ ∀ id ∈ D, σ id ≠ none → ι id ≠ b

theorem Rep.tree {v : V} {u : Value} (h : Rep w X ι n v u) (hx : ∀ b, X' b → X b)
    (ht : (∃ sz xs, v = .sl sz xs) ∨ (∃ cs, v = .box cs)) : Rep w X' ι' n' v u := by
  cases h <;> simp at ht
  case slE sz c a => exact .slE sz c a
  case sl sz xs b o c u hc hX hb hs hm hr =>
    exact .sl sz xs b o c u hc (fun h => hX (hx _ h)) hb hs hm (fun i x j e h1 h2 =>
      (hr i x j e h1 h2).move (Nat.le_refl _) (fun _ _ _ => rfl) (fun _ c _ _ h => ⟨c, h, rfl⟩) (fun id h => by omega) (fun b _ h => hx b h) (Nat.le_refl _))
  case box cs b o u hX hb h1 hm hr =>
    exact .box cs b o u (fun h => hX (hx _ h)) hb h1 hm (fun j e h1 =>
      (hr j e h1).move (Nat.le_refl _) (fun _ _ _ => rfl) (fun _ c _ _ h => ⟨c, h, rfl⟩) (fun id h => by omega) (fun b _ h => hx b h) (Nat.le_refl _))

theorem elems_ref {id off len sz : Nat} {xs : List V} (h : elems σ sz (.ref id off len sz) = some xs) :
    ∃ ys, σ id = some (.row sz ys) ∧ off + len ≤ ys.length ∧ xs = (ys.drop off).take len ∧ xs.length = len ∧ ∀ (i : Nat) (x : V), xs[i]? = some x → ys[off + i]? = some x := by
  simp only [elems] at h
  split at h
  · rename_i sz'' ys hid
    split at h
    · rename_i hc
      obtain ⟨_, rfl, hle⟩ := hc
      simp only [Option.some.injEq] at h
      subst h
      refine ⟨ys, hid, hle, rfl, by simp; omega, fun i x hx => ?_⟩
      rw [List.getElem?_take] at hx
      split at hx
      · rwa [List.getElem?_drop] at hx
      · cases hx
    · cases h
  · cases h

theorem rowAt_spec {id sz i : Nat} {e : V} (h : rowAt σ id sz i = some e) : ∃ ys, σ id = some (.row sz ys) ∧ ys[i]? = some e := by
  unfold rowAt at h
  split at h
  · rename_i sz' ys hid
    split at h
    · rename_i hs; subst hs; exact ⟨ys, hid, h⟩
    · cases h
  · cases h

/-- A value read out as a tree stands for what it stood for. -/
theorem frz_rep (hw : WF w X ι σ n) {D : List Nat} : ∀ (k : Nat) (v t : V) (u : Value), frz σ k v = some t → Rep w X ι n v u → (∀ id ∈ rch σ k v, id ∈ D) →
    Rep w (cutX X ι σ D) ι' n' t u := by
  intro k
  induction k generalizing n' ι' with
  | zero => intro v t u h; simp [frz] at h
  | succ k ih =>
    intro v t u h hr hD
    have hsub : ∀ b, cutX X ι σ D b → X b := fun b h => h.1
    cases hr with
    | int k m => simp [frz] at h; subst h; exact .int k m
    | bool b => simp [frz] at h; subst h; exact .bool b
    | str s => simp [frz] at h; subst h; exact .str s
    | nilS => simp [frz] at h; subst h; exact .nilS
    | nilP => simp [frz] at h; subst h; exact .nilP
    | nilF => simp [frz] at h; subst h; exact .nilF
    | nilI => simp [frz] at h; subst h; exact .nilI
    | undef => simp [frz] at h; subst h; exact .undef
    | yld l hid => simp [frz] at h
    | slE sz c a => simp [frz] at h; subst h; exact .slE sz c a
    | sl sz xs b o c u hc hX hb hs hm hr =>
      simp [frz] at h; subst h
      exact (Rep.sl (n := n) sz xs b o c u hc hX hb hs hm hr).tree hsub (.inl ⟨_, _, rfl⟩)
    | box cs b o u hX hb h1 hm hr =>
      simp [frz] at h; subst h
      exact (Rep.box (n := n) cs b o u hX hb h1 hm hr).tree hsub (.inr ⟨_, rfl⟩)
    | agg cs us hl hr =>
      simp only [frz, Option.map_eq_some_iff] at h
      obtain ⟨ts, hm, rfl⟩ := h
      refine .agg _ _ ((mapM_get' _ _ _ hm).1.symm.trans hl) (fun i e u he hu => ?_)
      obtain ⟨e0, he0, hf⟩ := mapM_back hm he
      exact ih e0 e u hf (hr i e0 u he0 hu) (fun id hid => hD id (by simp only [rch, List.mem_flatMap]; exact ⟨e0, List.mem_of_getElem? he0, hid⟩))
    | tup cs us hl hr =>
      simp only [frz, Option.map_eq_some_iff] at h
      obtain ⟨ts, hm, rfl⟩ := h
      refine .tup _ _ ((mapM_get' _ _ _ hm).1.symm.trans hl) (fun i e u he hu => ?_)
      obtain ⟨e0, he0, hf⟩ := mapM_back hm he
      exact ih e0 e u hf (hr i e0 u he0 hu) (fun id hid => hD id (by simp only [rch, List.mem_flatMap]; exact ⟨e0, List.mem_of_getElem? he0, hid⟩))
    | fn f cs us hl hr =>
      simp only [frz, Option.map_eq_some_iff] at h
      obtain ⟨ts, hm, rfl⟩ := h
      refine .fn _ _ _ ((mapM_get' _ _ _ hm).1.symm.trans hl) (fun i e u he hu => ?_)
      obtain ⟨e0, he0, hf⟩ := mapM_back hm he
      exact ih e0 e u hf (hr i e0 u he0 hu) (fun id hid => hD id (by simp only [rch, List.mem_flatMap]; exact ⟨e0, List.mem_of_getElem? he0, hid⟩))
    | iface ty x u hr =>
      simp only [frz, Option.map_eq_some_iff] at h
      obtain ⟨t', hm, rfl⟩ := h
      exact .iface _ _ _ (ih _ _ _ hm hr (fun id hid => hD id (by simpa only [rch] using hid)))
    | ref id off len sz c o cells ty fz hid hc ho hm hz =>
      simp only [frz, Option.bind_eq_some_iff, Option.map_eq_some_iff] at h
      obtain ⟨xs, hxs, ts, hts, rfl⟩ := h
      have hxs' := hxs
      obtain ⟨ys, hrow, hle, -, hlen, hget⟩ := elems_ref hxs
      obtain ⟨cs0, ty0, u0, a1, a2, a3, a4, a5⟩ := hw.row id _ _ hrow
      have hl := (mapM_get' _ _ _ hts).1
      have hidD : id ∈ D := hD id (by simp [rch])
      have hlt : ι id < w.heap.size := (Array.getElem?_eq_some_iff.1 a1).1
      rw [← hlen, hl] at hc ⊢
      have el : ∀ (i : Nat) (y : V), ts[i]? = some y → ∃ x, xs[i]? = some x ∧ y.cells.length = sz ∧ y.cells.all V.one = true ∧
          ∀ (j : Nat) (e' : V), y.cells[j]? = some e' → ∃ e, x.cells[j]? = some e ∧ frz σ k e = some e' := by
        intro i y hy
        obtain ⟨x, hx, hf⟩ := mapM_back hts hy
        obtain ⟨b1, b2⟩ := a3 _ _ (hget i x hx)
        obtain ⟨c1, c2, c3⟩ := elemM_spec (fun v t h1 h2 => frz_one h1 h2) hf b2
        exact ⟨x, hx, c1.trans b1, c2, c3⟩
      refine .sl sz ts (ι id) o c (fun i j => u0 (off + i) j) hc (fun hx => hx.2 id hidD (by rw [hrow]; simp) rfl) hlt (fun i y hy => let ⟨_, _, p, q, _⟩ := el i y hy; ⟨p, q⟩) ?_ ?_
      · intro i y j e' hy he'
        obtain ⟨x, hx, -, -, hc3⟩ := el i y hy
        obtain ⟨e, he, hf⟩ := hc3 j e' he'
        have := a4 _ _ _ _ (hget i x hx) he
        have hi : i < ts.length := (List.getElem?_eq_some_iff.1 hy).1
        have hoe : o = off * sz := by
          rcases ho with h0 | h0
          · omega
          · exact h0
        simp only [World.cell?, a1]
        rw [hoe, show off * sz + i * sz + j = (off + i) * sz + j by rw [Nat.add_mul]]
        exact this
      · intro i y j e' hy he'
        obtain ⟨x, hx, -, -, hc3⟩ := el i y hy
        obtain ⟨e, he, hf⟩ := hc3 j e' he'
        exact ih e e' _ hf (a5 _ _ _ _ (hget i x hx) he) (fun id' hid' => hD id' (by
          simp only [rch, List.mem_cons, hxs', Option.getD_some, List.mem_flatMap]
          exact .inr ⟨x, List.mem_of_getElem? hx, e, List.mem_of_getElem? he, hid'⟩))
    | ptr id sz i j hid =>
      simp only [frz, Option.bind_eq_some_iff, Option.map_eq_some_iff] at h
      obtain ⟨e, hrow, ts, hts, rfl⟩ := h
      have hrow' := hrow
      obtain ⟨ys, hrow, hget⟩ := rowAt_spec hrow
      obtain ⟨cs0, ty0, u0, a1, a2, a3, a4, a5⟩ := hw.row id _ _ hrow
      have hidD : id ∈ D := hD id (by simp [rch])
      have hlt : ι id < w.heap.size := (Array.getElem?_eq_some_iff.1 a1).1
      have hall : ts.all V.one = true := by
        rw [List.all_eq_true]
        intro e' he'
        obtain ⟨q, hq, rfl⟩ := List.getElem_of_mem he'
        obtain ⟨e0, he0, hf⟩ := mapM_back hts (List.getElem?_eq_getElem hq)
        rw [List.getElem?_drop] at he0
        exact frz_one hf (List.all_eq_true.1 (a3 _ _ hget).2 e0 (List.mem_of_getElem? he0))
      refine .box ts (ι id) (i * sz + j) (fun q => u0 i (j + q)) (fun hx => hx.2 id hidD (by rw [hrow]; simp) rfl) hlt hall ?_ ?_
      · intro q e' he'
        obtain ⟨e0, he0, hf⟩ := mapM_back hts he'
        rw [List.getElem?_drop] at he0
        have := a4 _ _ _ _ hget he0
        simp only [World.cell?, a1]
        rw [Nat.add_assoc]; exact this
      · intro q e' he'
        obtain ⟨e0, he0, hf⟩ := mapM_back hts he'
        have he0' := he0
        rw [List.getElem?_drop] at he0
        exact ih e0 e' _ hf (a5 _ _ _ _ hget he0) (fun id' hid' => hD id' (by
          simp only [rch, List.mem_cons, hrow', Option.map_some, Option.getD_some, List.mem_flatMap]
          exact .inr ⟨e0, List.mem_of_getElem? he0', hid'⟩))

/-- No rows of its own in what is read out. -/
theorem thaw_frz : ∀ (k : Nat) (v t : V), frz σ k v = some t → ∀ (σ' : Sto) (n : Nat), thaw σ' n t = (t, σ', n) := by
  intro k
  induction k with
  | zero => intro v t h; simp [frz] at h
  | succ k ih =>
    have ihL : ∀ (l m : List V), l.mapM (frz σ k) = some m → ∀ (σ' : Sto) (n : Nat), thawL σ' n m = (m, σ', n) := by
      intro l
      induction l with
      | nil => intro m h σ' n; simp at h; subst h; simp [thawL]
      | cons x l ihl =>
        intro m h σ' n
        simp only [List.mapM_cons, Option.pure_def, Option.bind_eq_bind, Option.bind_eq_some_iff, Option.some.injEq] at h
        obtain ⟨y, hy, m', hm, rfl⟩ := h
        simp [thawL, ih _ _ hy, ihl _ hm]
    intro v t h σ' n
    cases v <;> simp only [frz, Option.some.injEq, Option.map_eq_some_iff, Option.bind_eq_some_iff, reduceCtorEq] at h
    case agg cs => obtain ⟨m, hm, rfl⟩ := h; simp [thaw, ihL _ _ hm]
    case tup cs => obtain ⟨m, hm, rfl⟩ := h; simp [thaw, ihL _ _ hm]
    case fn f cs => obtain ⟨m, hm, rfl⟩ := h; simp [thaw]
    case iface ty x => obtain ⟨m, hm, rfl⟩ := h; simp [thaw, ih _ _ hm]
    case ref => obtain ⟨_, _, _, _, rfl⟩ := h; simp [thaw]
    case ptr => obtain ⟨_, _, _, _, rfl⟩ := h; simp [thaw]
    all_goals (subst h; simp [thaw])

/-- Objects fall out of the store, and with them their blocks. -/
theorem dropL_wf (hw : WF w X ι σ n) (D : List Nat) : WF w (cutX X ι σ D) ι (dropL σ D) n := by
  have hs : ∀ id o, dropL σ D id = some o → σ id = some o ∧ id ∉ D := fun id o h => by
    unfold dropL at h
    split at h
    · cases h
    · exact ⟨h, by assumption⟩
  have hne : ∀ id, dropL σ D id ≠ none → σ id ≠ none ∧ id ∉ D := fun id h => by
    obtain ⟨o, ho⟩ := Option.ne_none_iff_exists'.1 h
    have := hs id o ho
    exact ⟨by rw [this.1]; simp, this.2⟩
  constructor
  · intro id sz xs h
    obtain ⟨cells, ty, u, a1, a2, a3, a4, a5⟩ := hw.row id sz xs (hs _ _ h).1
    exact ⟨cells, ty, u, a1, a2, a3, a4, fun i x j e hx he => (a5 i x j e hx he).move (Nat.le_refl _) (fun _ _ _ => rfl) (fun _ c _ _ h => ⟨c, h, rfl⟩) (fun _ _ => rfl) (fun b _ h => h.1) (Nat.le_refl _)⟩
  · intro l env ps a b st pend h
    obtain ⟨r, a1, a2⟩ := hw.loop l env ps a b st pend (hs _ _ h).1
    exact ⟨r, a1, a2.move (Nat.le_refl _) (fun _ _ _ => rfl) (fun _ c _ _ h => ⟨c, h, rfl⟩) (fun _ _ => rfl) (fun b _ h => h.1) (Nat.le_refl _)⟩
  · intro id h
    obtain ⟨h1, h2⟩ := hne id h
    refine ⟨hw.own id h1, fun id' hid' hn e => h2 (hw.inj id' id hn h1 e ▸ hid')⟩
  · intro id id' h h' he
    exact hw.inj id id' (hne _ h).1 (hne _ h').1 he
  · intro id h
    exact hw.dom id (hne _ h).1
  · intro b h
    exact hw.xlt b h.1

end
end Go.Q
