/- Values read out of the store as trees, and rows handed over: they stand. -/
import Derived.Test.YtdpinpbjfdobnaaQA
import Derived.RangeFuncRecord
import Derived.TacticsIn
import Derived.OrdersIn
import Derived.RangeFuncNested
section
set_option linter.unusedSimpArgs false
set_option linter.unusedVariables false
set_option linter.unusedSectionVars false
namespace Go.Q
variable [Link]

theorem mapM_get' {α β : Type} (f : α → Option β) : ∀ (l : List α) (m : List β), l.mapM f = some m → l.length = m.length ∧ ∀ (i : Nat) (a : α) (b : β), l[i]? = some a → m[i]? = some b → f a = some b
  | [], m, h => by simp at h; subst h; simp
  | a :: l, m, h => by
    simp only [List.mapM_cons, Option.pure_def, Option.bind_eq_bind, Option.bind_eq_some_iff, Option.some.injEq] at h
    obtain ⟨b, hb, m', hm, rfl⟩ := h
    obtain ⟨h1, h2⟩ := mapM_get' f l m' hm
    refine ⟨by simp [h1], fun i a' b' ha hb' => ?_⟩
    cases i with
    | zero => simp at ha hb'; subst ha; subst hb'; exact hb
    | succ i => exact h2 i a' b' (by simpa using ha) (by simpa using hb')

/-- The i-th of a row of images comes from the i-th. -/
theorem mapM_back {α β : Type} {f : α → Option β} {l : List α} {m : List β} (h : l.mapM f = some m) {i : Nat} {b : β} (hb : m[i]? = some b) :
    ∃ a, l[i]? = some a ∧ f a = some b := by
  obtain ⟨h1, h2⟩ := mapM_get' f l m h
  have hi : i < m.length := (List.getElem?_eq_some_iff.1 hb).1
  exact ⟨l[i], List.getElem?_eq_getElem (by omega), h2 i _ _ (List.getElem?_eq_getElem (by omega)) hb⟩

theorem not_agg_cells {v : V} (h : ∀ cs, v ≠ .agg cs) : v.cells = [v] := by
  cases v <;> first | rfl | exact absurd rfl (h _)

theorem one_cells {v : V} (h : v.one = true) : v.cells = [v] := by
  cases v <;> first | rfl | simp [V.one] at h

theorem elemM_spec {f : V → Option V} (hf : ∀ v t, f v = some t → v.one = true → t.one = true) {x y : V} (h : elemM f x = some y) (h1 : x.cells.all V.one = true) :
    y.cells.length = x.cells.length ∧ y.cells.all V.one = true ∧ ∀ (j : Nat) (e' : V), y.cells[j]? = some e' → ∃ e, x.cells[j]? = some e ∧ f e = some e' := by
  unfold elemM at h
  split at h
  · rename_i cs
    simp only [Option.map_eq_some_iff] at h
    obtain ⟨cs', hm, rfl⟩ := h
    refine ⟨(mapM_get' f cs cs' hm).1.symm, ?_, fun j e' he => mapM_back hm he⟩
    rw [List.all_eq_true]
    intro e' he'
    obtain ⟨i, hi, rfl⟩ := List.getElem_of_mem he'
    obtain ⟨e, he, hfe⟩ := mapM_back hm (List.getElem?_eq_getElem hi)
    exact hf _ _ hfe (List.all_eq_true.1 h1 e (List.mem_of_getElem? he))
  · rename_i hx
    have hc := not_agg_cells hx
    rw [hc] at h1 ⊢
    have hxo : x.one = true := by simpa using h1
    have hyo := hf _ _ h hxo
    rw [one_cells hyo]
    refine ⟨rfl, by simpa using hyo, fun j e' he => ?_⟩
    cases j with
    | zero => simp at he; subst he; exact ⟨x, rfl, h⟩
    | succ j => simp at he

theorem frz_one {σ : Sto} {k : Nat} {v t : V} (h : frz σ k v = some t) (h1 : v.one = true) : t.one = true := by
  cases k with
  | zero => simp [frz] at h
  | succ k =>
    cases v <;> simp only [frz, Option.some.injEq, Option.map_eq_some_iff, Option.bind_eq_some_iff, reduceCtorEq] at h <;> (try simp [V.one] at h1) <;>
      first
        | (subst h; rfl)
        | (obtain ⟨_, _, _, _, rfl⟩ := h; rfl)
        | (obtain ⟨_, _, rfl⟩ := h; rfl)

section
variable {w w' : World} {X X' : Nat → Prop} {ι ι' : Nat → Nat} {σ σ' : Sto} {n n' lk : Nat}

/-- The blocks that are left when objects fall out. -/
def cutX (X : Nat → Prop) (ι : Nat → Nat) (σ : Sto) (D : List Nat) : Nat → Prop := fun b => X b ∧ ∀ id ∈ D, σ id ≠ none → ι id ≠ b

theorem Rep.tree {v : V} {u : Value} (h : Rep w X ι n v u) (hx : ∀ b, X' b → X b)
    (ht : (∃ sz xs, v = .sl sz xs) ∨ (∃ cs, v = .box cs)) : Rep w X' ι' n' v u := by
  cases h <;> simp at ht
  case slE sz c a => exact .slE sz c a
  case sl sz xs b o c u hc hX hb hs hm hr =>
    exact .sl sz xs b o c u hc (fun h => hX (hx _ h)) hb hs hm (fun i x j e h1 h2 =>
      (hr i x j e h1 h2).move (Nat.le_refl _) (fun _ _ _ => rfl) (fun _ c _ _ h => ⟨c, h, rfl⟩) (fun id h => by omega) (fun b _ h => hx b h) (Nat.le_refl _))
  case box cs b o u hX hb h1 hm hr =>
    exact .box cs b o u (fun h => hX (hx _ h)) hb h1 hm (fun j e h1 =>
      (hr j e h1).move (Nat.le_refl _) (fun _ _ _ => rfl) (fun _ c _ _ h => ⟨c, h, rfl⟩) (fun id h => by omega) (fun b _ h => hx b h) (Nat.le_refl _))

theorem elems_ref {id off len sz : Nat} {xs : List V} (h : elems σ sz (.ref id off len sz) = some xs) :
    ∃ ys, σ id = some (.row sz ys) ∧ off + len ≤ ys.length ∧ xs = (ys.drop off).take len ∧ xs.length = len ∧ ∀ (i : Nat) (x : V), xs[i]? = some x → ys[off + i]? = some x := by
  simp only [elems] at h
  split at h
  · rename_i sz'' ys hid
    split at h
    · rename_i hc
      obtain ⟨_, rfl, hle⟩ := hc
      simp only [Option.some.injEq] at h
      subst h
      refine ⟨ys, hid, hle, rfl, by simp; omega, fun i x hx => ?_⟩
      rw [List.getElem?_take] at hx
      split at hx
      · rwa [List.getElem?_drop] at hx
      · cases hx
    · cases h
  · cases h

theorem rowAt_spec {id sz i : Nat} {e : V} (h : rowAt σ id sz i = some e) : ∃ ys, σ id = some (.row sz ys) ∧ ys[i]? = some e := by
  unfold rowAt at h
  split at h
  · rename_i sz' ys hid
    split at h
    · rename_i hs; subst hs; exact ⟨ys, hid, h⟩
    · cases h
  · cases h

/-- A value read out as a tree stands for what it stood for. -/
theorem frz_rep (hw : WF w X ι σ n) {D : List Nat} : ∀ (k : Nat) (v t : V) (u : Value), frz σ k v = some t → Rep w X ι n v u → (∀ id ∈ rch σ k v, id ∈ D) →
    Rep w (cutX X ι σ D) ι' n' t u := by
  intro k
  induction k generalizing n' ι' with
  | zero => intro v t u h; simp [frz] at h
  | succ k ih =>
    intro v t u h hr hD
    have hsub : ∀ b, cutX X ι σ D b → X b := fun b h => h.1
    cases hr with
    | int k m => simp [frz] at h; subst h; exact .int k m
    | bool b => simp [frz] at h; subst h; exact .bool b
    | str s => simp [frz] at h; subst h; exact .str s
    | nilS => simp [frz] at h; subst h; exact .nilS
    | nilP => simp [frz] at h; subst h; exact .nilP
    | nilF => simp [frz] at h; subst h; exact .nilF
    | nilI => simp [frz] at h; subst h; exact .nilI
    | undef => simp [frz] at h; subst h; exact .undef
    | yld l hid => simp [frz] at h
    | slE sz c a => simp [frz] at h; subst h; exact .slE sz c a
    | sl sz xs b o c u hc hX hb hs hm hr =>
      simp [frz] at h; subst h
      exact (Rep.sl (n := n) sz xs b o c u hc hX hb hs hm hr).tree hsub (.inl ⟨_, _, rfl⟩)
    | box cs b o u hX hb h1 hm hr =>
      simp [frz] at h; subst h
      exact (Rep.box (n := n) cs b o u hX hb h1 hm hr).tree hsub (.inr ⟨_, rfl⟩)
    | agg cs us hl hr =>
      simp only [frz, Option.map_eq_some_iff] at h
      obtain ⟨ts, hm, rfl⟩ := h
      refine .agg _ _ ((mapM_get' _ _ _ hm).1.symm.trans hl) (fun i e u he hu => ?_)
      obtain ⟨e0, he0, hf⟩ := mapM_back hm he
      exact ih e0 e u hf (hr i e0 u he0 hu) (fun id hid => hD id (by simp only [rch, List.mem_flatMap]; exact ⟨e0, List.mem_of_getElem? he0, hid⟩))
    | tup cs us hl hr =>
      simp only [frz, Option.map_eq_some_iff] at h
      obtain ⟨ts, hm, rfl⟩ := h
      refine .tup _ _ ((mapM_get' _ _ _ hm).1.symm.trans hl) (fun i e u he hu => ?_)
      obtain ⟨e0, he0, hf⟩ := mapM_back hm he
      exact ih e0 e u hf (hr i e0 u he0 hu) (fun id hid => hD id (by simp only [rch, List.mem_flatMap]; exact ⟨e0, List.mem_of_getElem? he0, hid⟩))
    | fn f cs us hl hr =>
      simp only [frz, Option.map_eq_some_iff] at h
      obtain ⟨ts, hm, rfl⟩ := h
      refine .fn _ _ _ ((mapM_get' _ _ _ hm).1.symm.trans hl) (fun i e u he hu => ?_)
      obtain ⟨e0, he0, hf⟩ := mapM_back hm he
      exact ih e0 e u hf (hr i e0 u he0 hu) (fun id hid => hD id (by simp only [rch, List.mem_flatMap]; exact ⟨e0, List.mem_of_getElem? he0, hid⟩))
    | bnd f cs us hl hr =>
      simp only [frz, Option.map_eq_some_iff] at h
      obtain ⟨ts, hm, rfl⟩ := h
      refine .bnd _ _ _ ((mapM_get' _ _ _ hm).1.symm.trans hl) (fun i e u he hu => ?_)
      obtain ⟨e0, he0, hf⟩ := mapM_back hm he
      exact ih e0 e u hf (hr i e0 u he0 hu) (fun id hid => hD id (by simp only [rch, List.mem_flatMap]; exact ⟨e0, List.mem_of_getElem? he0, hid⟩))
    | iface ty x u hr =>
      simp only [frz, Option.map_eq_some_iff] at h
      obtain ⟨t', hm, rfl⟩ := h
      exact .iface _ _ _ (ih _ _ _ hm hr (fun id hid => hD id (by simpa only [rch] using hid)))
    | ref id off len sz c o cells ty fz hid hc ho hm hz =>
      simp only [frz, Option.bind_eq_some_iff, Option.map_eq_some_iff] at h
      obtain ⟨xs, hxs, ts, hts, rfl⟩ := h
      have hxs' := hxs
      obtain ⟨ys, hrow, hle, -, hlen, hget⟩ := elems_ref hxs
      obtain ⟨cs0, ty0, u0, a1, a2, a3, a4, a5⟩ := hw.row id _ _ hrow
      have hl := (mapM_get' _ _ _ hts).1
      have hidD : id ∈ D := hD id (by simp [rch])
      have hlt : ι id < w.heap.size := (Array.getElem?_eq_some_iff.1 a1).1
      rw [← hlen, hl] at hc ⊢
      have el : ∀ (i : Nat) (y : V), ts[i]? = some y → ∃ x, xs[i]? = some x ∧ y.cells.length = sz ∧ y.cells.all V.one = true ∧
          ∀ (j : Nat) (e' : V), y.cells[j]? = some e' → ∃ e, x.cells[j]? = some e ∧ frz σ k e = some e' := by
        intro i y hy
        obtain ⟨x, hx, hf⟩ := mapM_back hts hy
        obtain ⟨b1, b2⟩ := a3 _ _ (hget i x hx)
        obtain ⟨c1, c2, c3⟩ := elemM_spec (fun v t h1 h2 => frz_one h1 h2) hf b2
        exact ⟨x, hx, c1.trans b1, c2, c3⟩
      refine .sl sz ts (ι id) o c (fun i j => u0 (off + i) j) hc (fun hx => hx.2 id hidD (by rw [hrow]; simp) rfl) hlt (fun i y hy => let ⟨_, _, p, q, _⟩ := el i y hy; ⟨p, q⟩) ?_ ?_
      · intro i y j e' hy he'
        obtain ⟨x, hx, -, -, hc3⟩ := el i y hy
        obtain ⟨e, he, hf⟩ := hc3 j e' he'
        have := a4 _ _ _ _ (hget i x hx) he
        have hi : i < ts.length := (List.getElem?_eq_some_iff.1 hy).1
        have hoe : o = off * sz := by
          rcases ho with h0 | h0
          · omega
          · exact h0
        simp only [World.cell?, a1]
        rw [hoe, show off * sz + i * sz + j = (off + i) * sz + j by rw [Nat.add_mul]]
        exact this
      · intro i y j e' hy he'
        obtain ⟨x, hx, -, -, hc3⟩ := el i y hy
        obtain ⟨e, he, hf⟩ := hc3 j e' he'
        exact ih e e' _ hf (a5 _ _ _ _ (hget i x hx) he) (fun id' hid' => hD id' (by
          simp only [rch, List.mem_cons, hxs', Option.getD_some, List.mem_flatMap]
          exact .inr ⟨x, List.mem_of_getElem? hx, e, List.mem_of_getElem? he, hid'⟩))
    | ptr id sz i j hid =>
      simp only [frz, Option.bind_eq_some_iff, Option.map_eq_some_iff] at h
      obtain ⟨e, hrow, ts, hts, rfl⟩ := h
      have hrow' := hrow
      obtain ⟨ys, hrow, hget⟩ := rowAt_spec hrow
      obtain ⟨cs0, ty0, u0, a1, a2, a3, a4, a5⟩ := hw.row id _ _ hrow
      have hidD : id ∈ D := hD id (by simp [rch])
      have hlt : ι id < w.heap.size := (Array.getElem?_eq_some_iff.1 a1).1
      have hall : ts.all V.one = true := by
        rw [List.all_eq_true]
        intro e' he'
        obtain ⟨q, hq, rfl⟩ := List.getElem_of_mem he'
        obtain ⟨e0, he0, hf⟩ := mapM_back hts (List.getElem?_eq_getElem hq)
        rw [List.getElem?_drop] at he0
        exact frz_one hf (List.all_eq_true.1 (a3 _ _ hget).2 e0 (List.mem_of_getElem? he0))
      refine .box ts (ι id) (i * sz + j) (fun q => u0 i (j + q)) (fun hx => hx.2 id hidD (by rw [hrow]; simp) rfl) hlt hall ?_ ?_
      · intro q e' he'
        obtain ⟨e0, he0, hf⟩ := mapM_back hts he'
        rw [List.getElem?_drop] at he0
        have := a4 _ _ _ _ hget he0
        simp only [World.cell?, a1]
        rw [Nat.add_assoc]; exact this
      · intro q e' he'
        obtain ⟨e0, he0, hf⟩ := mapM_back hts he'
        have he0' := he0
        rw [List.getElem?_drop] at he0
        exact ih e0 e' _ hf (a5 _ _ _ _ hget he0) (fun id' hid' => hD id' (by
          simp only [rch, List.mem_cons, hrow', Option.map_some, Option.getD_some, List.mem_flatMap]
          exact .inr ⟨e0, List.mem_of_getElem? he0', hid'⟩))

/-- No rows of its own in what is read out. -/
theorem thaw_frz : ∀ (k : Nat) (v t : V), frz σ k v = some t → ∀ (σ' : Sto) (n : Nat), thaw σ' n t = (t, σ', n) := by
  intro k
  induction k with
  | zero => intro v t h; simp [frz] at h
  | succ k ih =>
    have ihL : ∀ (l m : List V), l.mapM (frz σ k) = some m → ∀ (σ' : Sto) (n : Nat), thawL σ' n m = (m, σ', n) := by
      intro l
      induction l with
      | nil => intro m h σ' n; simp at h; subst h; simp [thawL]
      | cons x l ihl =>
        intro m h σ' n
        simp only [List.mapM_cons, Option.pure_def, Option.bind_eq_bind, Option.bind_eq_some_iff, Option.some.injEq] at h
        obtain ⟨y, hy, m', hm, rfl⟩ := h
        simp [thawL, ih _ _ hy, ihl _ hm]
    intro v t h σ' n
    cases v <;> simp only [frz, Option.some.injEq, Option.map_eq_some_iff, Option.bind_eq_some_iff, reduceCtorEq] at h
    case agg cs => obtain ⟨m, hm, rfl⟩ := h; simp [thaw, ihL _ _ hm]
    case tup cs => obtain ⟨m, hm, rfl⟩ := h; simp [thaw, ihL _ _ hm]
    case fn f cs => obtain ⟨m, hm, rfl⟩ := h; simp [thaw]
    case bnd f cs => obtain ⟨m, hm, rfl⟩ := h; simp [thaw]
    case iface ty x => obtain ⟨m, hm, rfl⟩ := h; simp [thaw, ih _ _ hm]
    case ref => obtain ⟨_, _, _, _, rfl⟩ := h; simp [thaw]
    case ptr => obtain ⟨_, _, _, _, rfl⟩ := h; simp [thaw]
    all_goals (subst h; simp [thaw])

/-- Objects fall out of the store, and with them their blocks. -/
theorem dropL_wf (hw : WF w X ι σ n) (D : List Nat) : WF w (cutX X ι σ D) ι (dropL σ D) n := by
  have hs : ∀ id o, dropL σ D id = some o → σ id = some o ∧ id ∉ D := fun id o h => by
    unfold dropL at h
    split at h
    · cases h
    · exact ⟨h, by assumption⟩
  have hne : ∀ id, dropL σ D id ≠ none → σ id ≠ none ∧ id ∉ D := fun id h => by
    obtain ⟨o, ho⟩ := Option.ne_none_iff_exists'.1 h
    have := hs id o ho
    exact ⟨by rw [this.1]; simp, this.2⟩
  constructor
  · intro id sz xs h
    obtain ⟨cells, ty, u, a1, a2, a3, a4, a5⟩ := hw.row id sz xs (hs _ _ h).1
    exact ⟨cells, ty, u, a1, a2, a3, a4, fun i x j e hx he => (a5 i x j e hx he).move (Nat.le_refl _) (fun _ _ _ => rfl) (fun _ c _ _ h => ⟨c, h, rfl⟩) (fun _ _ => rfl) (fun b _ h => h.1) (Nat.le_refl _)⟩
  · intro l env ps a b st pend h
    obtain ⟨r, a1, a2⟩ := hw.loop l env ps a b st pend (hs _ _ h).1
    exact ⟨r, a1, a2.move (Nat.le_refl _) (fun _ _ _ => rfl) (fun _ c _ _ h => ⟨c, h, rfl⟩) (fun _ _ => rfl) (fun b _ h => h.1) (Nat.le_refl _)⟩
  · intro id h
    obtain ⟨h1, h2⟩ := hne id h
    refine ⟨hw.own id h1, fun id' hid' hn e => h2 (hw.inj id' id hn h1 e ▸ hid')⟩
  · intro id id' h h' he
    exact hw.inj id id' (hne _ h).1 (hne _ h').1 he
  · intro id h
    exact hw.dom id (hne _ h).1
  · intro b h
    exact hw.xlt b h.1

end
end Go.Q
end

section
/- Rows that a call hands over become objects of its caller's store. -/
set_option linter.unusedSimpArgs false
set_option linter.unusedVariables false
set_option linter.unusedSectionVars false
namespace Go.Q
variable [Link]

theorem giv_live {σ : Sto} : ∀ (k : Nat) (v r : V), giv σ k v = some r → ∀ g ∈ gids σ k v, σ g ≠ none := by
  intro k
  induction k with
  | zero => intro v r h; simp [giv] at h
  | succ k ih =>
    have ihL : ∀ (l m : List V), l.mapM (giv σ k) = some m → ∀ g ∈ l.flatMap (gids σ k), σ g ≠ none := by
      intro l m h g hg
      obtain ⟨x, hx, hg⟩ := List.mem_flatMap.1 hg
      obtain ⟨i, hi, rfl⟩ := List.getElem_of_mem hx
      obtain ⟨h1, h2⟩ := mapM_get' _ _ _ h
      exact ih _ _ (h2 i _ _ (List.getElem?_eq_getElem hi) (List.getElem?_eq_getElem (by omega))) g hg
    intro v r h g hg
    cases v <;> simp only [gids, List.not_mem_nil] at hg
    case agg cs => simp only [giv, Option.map_eq_some_iff] at h; obtain ⟨m, hm, rfl⟩ := h; exact ihL _ _ hm g hg
    case tup cs => simp only [giv, Option.map_eq_some_iff] at h; obtain ⟨m, hm, rfl⟩ := h; exact ihL _ _ hm g hg
    case iface t x => simp only [giv, Option.map_eq_some_iff] at h; obtain ⟨m, hm, rfl⟩ := h; exact ih _ _ hm g hg
    case ref id off len sz =>
      simp only [giv] at h
      split at h
      · rename_i sz' xs hrow
        simp only [hrow, List.mem_cons] at hg
        split at h
        · simp only [Option.map_eq_some_iff] at h
          obtain ⟨m, hm, rfl⟩ := h
          rcases hg with rfl | hg
          · rw [hrow]; simp
          · obtain ⟨x, hx, hg⟩ := List.mem_flatMap.1 hg
            obtain ⟨i, hi, rfl⟩ := List.getElem_of_mem hx
            obtain ⟨h1, h2⟩ := mapM_get' _ _ _ hm
            have he := h2 i _ _ (List.getElem?_eq_getElem hi) (List.getElem?_eq_getElem (by omega))
            unfold elemM at he
            split at he
            · rename_i cs hcs
              simp only [Option.map_eq_some_iff] at he
              obtain ⟨cs', hcs', _⟩ := he
              rw [hcs] at hg
              exact ihL _ _ hcs' g hg
            · rename_i hcs
              rw [not_agg_cells hcs] at hg
              simp only [List.flatMap_cons, List.flatMap_nil, List.append_nil] at hg
              exact ih _ _ he g hg
        · cases h
      · cases h

section
variable {w : World} {X1 Xf : Nat → Prop} {ι1 : Nat → Nat} {σ1 : Sto} {n1 : Nat}

structure Thr (w : World) (Xf : Nat → Prop) (ι1 : Nat → Nat) (G : List Nat) (σ : Sto) (n : Nat) (ι : Nat → Nat) (σ' : Sto) (n' : Nat) (ι' : Nat → Nat) : Prop where
  wf : WF w Xf ι' σ' n'
  le : n ≤ n'
  ix : ∀ id, id < n → ι' id = ι id
  new : ∀ id, n ≤ id → σ' id ≠ none → ∃ g ∈ G, ι' id = ι1 g
  old : ∀ id, id < n → σ' id = σ id

variable {σ σ' σ'' : Sto} {n n' n'' : Nat} {ι ι' ι'' : Nat → Nat} {G G' : List Nat}

theorem Thr.refl (h : WF w Xf ι σ n) : Thr w Xf ι1 [] σ n ι σ n ι :=
  ⟨h, Nat.le_refl _, fun _ _ => rfl, fun id h1 h2 => absurd (h.dom id h2) (by omega), fun _ _ => rfl⟩

theorem Thr.trans (h : Thr w Xf ι1 G σ n ι σ' n' ι') (h' : Thr w Xf ι1 G' σ' n' ι' σ'' n'' ι'') : Thr w Xf ι1 (G ++ G') σ n ι σ'' n'' ι'' where
  wf := h'.wf
  le := Nat.le_trans h.le h'.le
  ix := fun id hid => (h'.ix id (Nat.lt_of_lt_of_le hid h.le)).trans (h.ix id hid)
  new := fun id hid hs => by
    by_cases hl : id < n'
    · rw [h'.old id hl] at hs
      obtain ⟨g, hg, e⟩ := h.new id hid hs
      exact ⟨g, List.mem_append_left _ hg, (h'.ix id hl).trans e⟩
    · obtain ⟨g, hg, e⟩ := h'.new id (by omega) hs
      exact ⟨g, List.mem_append_right _ hg, e⟩
  old := fun id hid => (h'.old id (Nat.lt_of_lt_of_le hid h.le)).trans (h.old id hid)

theorem Thr.rep (h : Thr w Xf ι1 G σ n ι σ' n' ι') {v : V} {u : Value} (hr : Rep w Xf ι n v u) : Rep w Xf ι' n' v u :=
  hr.move (Nat.le_refl _) (fun _ _ _ => rfl) (fun _ c _ _ h => ⟨c, h, rfl⟩) h.ix (fun _ _ h => h) h.le

def Fr (ι1 : Nat → Nat) (G : List Nat) (σ : Sto) (ι : Nat → Nat) : Prop := ∀ g ∈ G, ∀ id, σ id ≠ none → ι id ≠ ι1 g

theorem Thr.fr (hw1 : WF w X1 ι1 σ1 n1) (hw : WF w Xf ι σ n) (h : Thr w Xf ι1 G σ n ι σ' n' ι') (hf : Fr ι1 G' σ ι) (hl : ∀ g ∈ G, σ1 g ≠ none) (hl' : ∀ g ∈ G', σ1 g ≠ none)
    (hd : ∀ g ∈ G, g ∉ G') : Fr ι1 G' σ' ι' := by
  intro g hg id hs
  by_cases hid : id < n
  · rw [h.ix id hid]
    exact hf g hg id (by rwa [h.old id hid] at hs)
  · obtain ⟨g', hg', e⟩ := h.new id (by omega) hs
    rw [e]
    intro e'
    exact hd g' hg' (hw1.inj g' g (hl _ hg') (hl' _ hg) e' ▸ hg)

/-- What a value that is handed over comes to. -/
def GivOk (w : World) (X1 Xf : Nat → Prop) (ι1 : Nat → Nat) (σ1 : Sto) (n1 : Nat) (k : Nat) : Prop :=
  ∀ (v r : V) (u : Value), giv σ1 k v = some r → (flat r = true ∨ ∀ b, Xf b → X1 b) → Rep w X1 ι1 n1 v u → (∀ g ∈ gids σ1 k v, Xf (ι1 g)) → (gids σ1 k v).Nodup →
    ∀ (σ : Sto) (n : Nat) (ι : Nat → Nat), WF w Xf ι σ n → Fr ι1 (gids σ1 k v) σ ι →
      ∃ ι', Thr w Xf ι1 (gids σ1 k v) σ n ι (thaw σ n r).2.1 (thaw σ n r).2.2 ι' ∧ Rep w Xf ι' (thaw σ n r).2.2 (thaw σ n r).1 u ∧ (v.one = true → (thaw σ n r).1.one = true)

theorem givL (hw1 : WF w X1 ι1 σ1 n1) {k : Nat} (ih : GivOk w X1 Xf ι1 σ1 n1 k) : ∀ (l m : List V) (u : Nat → Value), l.mapM (giv σ1 k) = some m → (flatL m = true ∨ ∀ b, Xf b → X1 b) →
    (∀ (i : Nat) (e : V), l[i]? = some e → Rep w X1 ι1 n1 e (u i)) → (∀ g ∈ l.flatMap (gids σ1 k), Xf (ι1 g)) → (l.flatMap (gids σ1 k)).Nodup →
    ∀ (σ : Sto) (n : Nat) (ι : Nat → Nat), WF w Xf ι σ n → Fr ι1 (l.flatMap (gids σ1 k)) σ ι →
      ∃ ι', Thr w Xf ι1 (l.flatMap (gids σ1 k)) σ n ι (thawL σ n m).2.1 (thawL σ n m).2.2 ι' ∧ (thawL σ n m).1.length = l.length ∧
        (∀ (i : Nat) (e : V), (thawL σ n m).1[i]? = some e → Rep w Xf ι' (thawL σ n m).2.2 e (u i)) ∧ (l.all V.one = true → (thawL σ n m).1.all V.one = true) := by
  intro l
  induction l with
  | nil =>
    intro m u h _ _ _ _ σ n ι hw _
    simp at h; subst h
    exact ⟨ι, by simpa [thawL] using Thr.refl hw, by simp [thawL]⟩
  | cons x l ihl =>
    intro m u h hfl hr hX hnd σ n ι hw hf
    simp only [List.mapM_cons, Option.pure_def, Option.bind_eq_bind, Option.bind_eq_some_iff, Option.some.injEq] at h
    obtain ⟨y, hy, m', hm, rfl⟩ := h
    have hfl1 : flat y = true ∨ ∀ b, Xf b → X1 b := hfl.imp_left (fun h => by simp only [flatL, Bool.and_eq_true] at h; exact h.1)
    have hfl2 : flatL m' = true ∨ ∀ b, Xf b → X1 b := hfl.imp_left (fun h => by simp only [flatL, Bool.and_eq_true] at h; exact h.2)
    simp only [List.flatMap_cons] at hX hnd hf ⊢
    have hnd' := List.nodup_append.1 hnd
    obtain ⟨ι', ht, hrep, hone⟩ := ih x y (u 0) hy hfl1 (hr 0 x rfl) (fun g hg => hX g (List.mem_append_left _ hg)) hnd'.1 σ n ι hw (fun g hg => hf g (List.mem_append_left _ hg))
    have hlive : ∀ g ∈ gids σ1 k x, σ1 g ≠ none := giv_live k x y hy
    have hlive' : ∀ g ∈ l.flatMap (gids σ1 k), σ1 g ≠ none := fun g hg => by
      obtain ⟨x', hx', hg⟩ := List.mem_flatMap.1 hg
      obtain ⟨i, hi, rfl⟩ := List.getElem_of_mem hx'
      obtain ⟨h1, h2⟩ := mapM_get' _ _ _ hm
      exact giv_live _ _ _ (h2 i _ _ (List.getElem?_eq_getElem hi) (List.getElem?_eq_getElem (by omega))) g hg
    obtain ⟨ι'', ht', hlen, hrep', hone'⟩ := ihl m' (fun i => u (i + 1)) hm hfl2 (fun i e he => hr (i + 1) e (by simpa using he)) (fun g hg => hX g (List.mem_append_right _ hg)) hnd'.2.1
      (thaw σ n y).2.1 (thaw σ n y).2.2 ι' ht.wf (ht.fr hw1 hw (fun g hg => hf g (List.mem_append_right _ hg)) hlive hlive' (fun g hg hg' => hnd'.2.2 g hg g hg' rfl))
    refine ⟨ι'', by simpa [thawL] using ht.trans ht', by simp [thawL, hlen], ?_, ?_⟩
    · intro i e he
      simp only [thawL] at he ⊢
      cases i with
      | zero => simp at he; subst he; exact ht'.rep hrep
      | succ i => exact hrep' i e (by simpa using he)
    · intro h1
      simp only [List.all_cons, Bool.and_eq_true] at h1
      simp only [thawL, List.all_cons, Bool.and_eq_true]
      exact ⟨hone h1.1, hone' h1.2⟩

/-- The elements of a row that is handed over. -/
theorem givE (hw1 : WF w X1 ι1 σ1 n1) {k : Nat} (ih : GivOk w X1 Xf ι1 σ1 n1 k) (sz : Nat) : ∀ (l m : List V) (u : Nat → Nat → Value), l.mapM (elemM (giv σ1 k)) = some m → (flatL m = true ∨ ∀ b, Xf b → X1 b) →
    (∀ (i : Nat) (x : V), l[i]? = some x → x.cells.length = sz ∧ x.cells.all V.one = true) →
    (∀ (i : Nat) (x : V) (j : Nat) (e : V), l[i]? = some x → x.cells[j]? = some e → Rep w X1 ι1 n1 e (u i j)) →
    (∀ g ∈ l.flatMap (fun x => x.cells.flatMap (gids σ1 k)), Xf (ι1 g)) → (l.flatMap (fun x => x.cells.flatMap (gids σ1 k))).Nodup →
    ∀ (σ : Sto) (n : Nat) (ι : Nat → Nat), WF w Xf ι σ n → Fr ι1 (l.flatMap (fun x => x.cells.flatMap (gids σ1 k))) σ ι →
      ∃ ι', Thr w Xf ι1 (l.flatMap (fun x => x.cells.flatMap (gids σ1 k))) σ n ι (thawL σ n m).2.1 (thawL σ n m).2.2 ι' ∧ (thawL σ n m).1.length = l.length ∧
        (∀ (i : Nat) (x : V), (thawL σ n m).1[i]? = some x → x.cells.length = sz ∧ x.cells.all V.one = true) ∧
        (∀ (i : Nat) (x : V) (j : Nat) (e : V), (thawL σ n m).1[i]? = some x → x.cells[j]? = some e → Rep w Xf ι' (thawL σ n m).2.2 e (u i j)) := by
  intro l
  induction l with
  | nil =>
    intro m u h _ _ _ _ _ σ n ι hw _
    simp at h; subst h
    exact ⟨ι, by simpa [thawL] using Thr.refl hw, by simp [thawL], by simp [thawL], by simp [thawL]⟩
  | cons x l ihl =>
    intro m u h hfl hs hr hX hnd σ n ι hw hf
    simp only [List.mapM_cons, Option.pure_def, Option.bind_eq_bind, Option.bind_eq_some_iff, Option.some.injEq] at h
    obtain ⟨y, hy, m', hm, rfl⟩ := h
    have hfl1 : flat y = true ∨ ∀ b, Xf b → X1 b := hfl.imp_left (fun h => by simp only [flatL, Bool.and_eq_true] at h; exact h.1)
    have hfl2 : flatL m' = true ∨ ∀ b, Xf b → X1 b := hfl.imp_left (fun h => by simp only [flatL, Bool.and_eq_true] at h; exact h.2)
    simp only [List.flatMap_cons] at hX hnd hf ⊢
    have hnd' := List.nodup_append.1 hnd
    obtain ⟨hs1, hs2⟩ := hs 0 x rfl
    have key : ∃ ι', Thr w Xf ι1 (x.cells.flatMap (gids σ1 k)) σ n ι (thaw σ n y).2.1 (thaw σ n y).2.2 ι' ∧ (thaw σ n y).1.cells.length = sz ∧ (thaw σ n y).1.cells.all V.one = true ∧
        (∀ (j : Nat) (e : V), (thaw σ n y).1.cells[j]? = some e → Rep w Xf ι' (thaw σ n y).2.2 e (u 0 j)) ∧ ∀ g ∈ x.cells.flatMap (gids σ1 k), σ1 g ≠ none := by
      unfold elemM at hy
      split at hy
      · rename_i cs
        simp only [Option.map_eq_some_iff] at hy
        obtain ⟨cs', hcs, rfl⟩ := hy
        obtain ⟨ι', a, b, c, d⟩ := givL hw1 ih cs cs' (u 0) hcs (by simpa only [flat] using hfl1) (fun j e he => hr 0 _ j e rfl he) (fun g hg => hX g (List.mem_append_left _ hg)) hnd'.1 σ n ι hw (fun g hg => hf g (List.mem_append_left _ hg))
        refine ⟨ι', by simpa [thaw, V.cells] using a, by simp only [thaw, V.cells]; rw [b]; exact hs1, by simp only [thaw, V.cells]; exact d hs2, by simpa [thaw, V.cells] using c, fun g hg => ?_⟩
        obtain ⟨x', hx', hg⟩ := List.mem_flatMap.1 hg
        obtain ⟨i, hi, rfl⟩ := List.getElem_of_mem hx'
        obtain ⟨h1, h2⟩ := mapM_get' _ _ _ hcs
        exact giv_live _ _ _ (h2 i _ _ (List.getElem?_eq_getElem hi) (List.getElem?_eq_getElem (by simp only [V.cells] at hi; omega))) g hg
      · rename_i hx
        have hc := not_agg_cells hx
        rw [hc] at hs1 hs2 hX hnd' hf ⊢
        simp only [List.flatMap_cons, List.flatMap_nil, List.append_nil] at hX hnd' hf ⊢
        obtain ⟨ι', a, b, c⟩ := ih x y (u 0 0) hy hfl1 (hr 0 x 0 x rfl (by rw [hc]; rfl)) (fun g hg => hX g (List.mem_append_left _ hg)) hnd'.1 σ n ι hw (fun g hg => hf g (List.mem_append_left _ hg))
        have ho := c (by simpa using hs2)
        rw [one_cells ho]
        refine ⟨ι', a, hs1, by simpa using ho, fun j e he => ?_, giv_live _ _ _ hy⟩
        cases j with
        | zero => simp at he; subst he; exact b
        | succ j => simp at he
    obtain ⟨ι', ht, b1, b2, b3, hlive⟩ := key
    have hlive' : ∀ g ∈ l.flatMap (fun x => x.cells.flatMap (gids σ1 k)), σ1 g ≠ none := fun g hg => by
      obtain ⟨x', hx', hg⟩ := List.mem_flatMap.1 hg
      obtain ⟨i, hi, rfl⟩ := List.getElem_of_mem hx'
      obtain ⟨h1, h2⟩ := mapM_get' _ _ _ hm
      have he := h2 i _ _ (List.getElem?_eq_getElem hi) (List.getElem?_eq_getElem (by omega))
      unfold elemM at he
      split at he
      · rename_i cs hcs
        simp only [Option.map_eq_some_iff] at he
        obtain ⟨cs', hcs', _⟩ := he
        rw [hcs] at hg
        obtain ⟨x2, hx2, hg⟩ := List.mem_flatMap.1 hg
        obtain ⟨q, hq, rfl⟩ := List.getElem_of_mem hx2
        obtain ⟨h3, h4⟩ := mapM_get' _ _ _ hcs'
        exact giv_live _ _ _ (h4 q _ _ (List.getElem?_eq_getElem hq) (List.getElem?_eq_getElem (by simp [V.cells] at hq; omega))) g hg
      · rename_i hcs
        rw [not_agg_cells hcs] at hg
        simp only [List.flatMap_cons, List.flatMap_nil, List.append_nil] at hg
        exact giv_live _ _ _ he g hg
    obtain ⟨ι'', ht', hlen, c1, c2⟩ := ihl m' (fun i => u (i + 1)) hm hfl2 (fun i x hx => hs (i + 1) x (by simpa using hx)) (fun i x j e hx he => hr (i + 1) x j e (by simpa using hx) he)
      (fun g hg => hX g (List.mem_append_right _ hg)) hnd'.2.1
      (thaw σ n y).2.1 (thaw σ n y).2.2 ι' ht.wf (ht.fr hw1 hw (fun g hg => hf g (List.mem_append_right _ hg)) hlive hlive' (fun g hg hg' => hnd'.2.2 g hg g hg' rfl))
    refine ⟨ι'', by simpa [thawL] using ht.trans ht', by simp [thawL, hlen], ?_, ?_⟩
    · intro i z hz
      simp only [thawL] at hz
      cases i with
      | zero => simp at hz; subst hz; exact ⟨b1, b2⟩
      | succ i => exact c1 i z (by simpa using hz)
    · intro i z j e hz he
      simp only [thawL] at hz ⊢
      cases i with
      | zero => simp at hz; subst hz; exact ht'.rep (b3 j e he)
      | succ i => exact c2 i z j e (by simpa using hz) he

theorem giv_ok (hw1 : WF w X1 ι1 σ1 n1) : ∀ k, GivOk w X1 Xf ι1 σ1 n1 k := by
  intro k
  induction k with
  | zero => intro v r u h; simp [giv] at h
  | succ k ih =>
    intro v r u h hfl hr hX hnd σ n ι hw hf
    have leaf : ∀ {x : V}, (∀ σ n, thaw σ n x = (x, σ, n)) → Rep w Xf ι n x u → ∃ ι', Thr w Xf ι1 (gids σ1 (k + 1) v) σ n ι (thaw σ n x).2.1 (thaw σ n x).2.2 ι' ∧
        Rep w Xf ι' (thaw σ n x).2.2 (thaw σ n x).1 u ∧ (x.one = true → (thaw σ n x).1.one = true) := by
      intro x hx hrx
      rw [hx]
      exact ⟨ι, ⟨hw, Nat.le_refl _, fun _ _ => rfl, fun id h1 h2 => absurd (hw.dom id h2) (by omega), fun _ _ => rfl⟩, hrx, fun h => h⟩
    cases hr with
    | int q m => simp [giv] at h; subst h; exact leaf (fun _ _ => by simp [thaw]) (.int q m)
    | bool b => simp [giv] at h; subst h; exact leaf (fun _ _ => by simp [thaw]) (.bool b)
    | str s => simp [giv] at h; subst h; exact leaf (fun _ _ => by simp [thaw]) (.str s)
    | nilS => simp [giv] at h; subst h; exact leaf (fun _ _ => by simp [thaw]) .nilS
    | nilP => simp [giv] at h; subst h; exact leaf (fun _ _ => by simp [thaw]) .nilP
    | nilF => simp [giv] at h; subst h; exact leaf (fun _ _ => by simp [thaw]) .nilF
    | nilI => simp [giv] at h; subst h; exact leaf (fun _ _ => by simp [thaw]) .nilI
    | undef => simp [giv] at h; subst h; exact leaf (fun _ _ => by simp [thaw]) .undef
    | yld l hid => simp [giv] at h
    | ptr id sz i j hid => simp [giv] at h
    | bnd f cs us hl hr' => simp [giv] at h
    | fn f cs us hl hr' =>
      cases cs with
      | nil =>
        simp [giv] at h; subst h
        exact leaf (fun _ _ => by simp [thaw]) (.fn _ _ _ hl (fun i e u he => by simp at he))
      | cons c cs => simp [giv] at h
    | slE sz c a => simp [giv] at h; subst h; exact leaf (fun _ _ => by simp [thaw]) (.slE sz c a)
    | sl sz xs b o c u hc hX' hb hs hm hr' =>
      simp [giv] at h; subst h
      exact leaf (fun _ _ => by simp [thaw]) ((Rep.sl (n := n1) sz xs b o c u hc hX' hb hs hm hr').tree (hfl.resolve_left (by simp [flat])) (.inl ⟨_, _, rfl⟩))
    | box cs b o u hX' hb h1 hm hr' =>
      simp [giv] at h; subst h
      exact leaf (fun _ _ => by simp [thaw]) ((Rep.box (n := n1) cs b o u hX' hb h1 hm hr').tree (hfl.resolve_left (by simp [flat])) (.inr ⟨_, rfl⟩))
    | iface ty x u hr' =>
      simp only [giv, Option.map_eq_some_iff] at h
      obtain ⟨y, hy, rfl⟩ := h
      simp only [gids] at hX hnd hf ⊢
      obtain ⟨ι', a, b, c⟩ := ih x y u hy (by simpa only [flat] using hfl) hr' hX hnd σ n ι hw hf
      exact ⟨ι', by simpa [thaw] using a, by simp only [thaw]; exact .iface _ _ _ b, fun _ => rfl⟩
    | agg cs us hl hr' =>
      simp only [giv, Option.map_eq_some_iff] at h
      obtain ⟨m, hm, rfl⟩ := h
      simp only [gids] at hX hnd hf ⊢
      obtain ⟨ι', a, b, c, d⟩ := givL hw1 ih cs m (fun i => us.getD i undef) hm (by simpa only [flat] using hfl) (fun i e he => by
        have hi : i < us.size := by have := (List.getElem?_eq_some_iff.1 he).1; omega
        have := hr' i e us[i] he (Array.getElem?_eq_getElem hi)
        simpa [hi] using this) hX hnd σ n ι hw hf
      refine ⟨ι', by simpa [thaw] using a, ?_, fun h => by simp [V.one] at h⟩
      simp only [thaw]
      refine .agg _ _ (b.trans hl) (fun i e x he hx => ?_)
      have := c i e he
      rwa [show us.getD i undef = x by simp [Array.getD_eq_getD_getElem?, hx]] at this
    | tup cs us hl hr' =>
      simp only [giv, Option.map_eq_some_iff] at h
      obtain ⟨m, hm, rfl⟩ := h
      simp only [gids] at hX hnd hf ⊢
      obtain ⟨ι', a, b, c, d⟩ := givL hw1 ih cs m (fun i => us.getD i undef) hm (by simpa only [flat] using hfl) (fun i e he => by
        have hi : i < us.size := by have := (List.getElem?_eq_some_iff.1 he).1; omega
        have := hr' i e us[i] he (Array.getElem?_eq_getElem hi)
        simpa [hi] using this) hX hnd σ n ι hw hf
      refine ⟨ι', by simpa [thaw] using a, ?_, fun h => by simp [V.one] at h⟩
      simp only [thaw]
      refine .tup _ _ (b.trans hl) (fun i e x he hx => ?_)
      have := c i e he
      rwa [show us.getD i undef = x by simp [Array.getD_eq_getD_getElem?, hx]] at this
    | ref id off len sz c o cells ty fz hid hc ho hm hz =>
      simp only [giv] at h
      split at h
      · rename_i sz' xs hrow
        split at h
        · rename_i hcond
          obtain ⟨rfl, rfl, rfl⟩ := hcond
          simp only [Option.map_eq_some_iff] at h
          obtain ⟨m, hmm, rfl⟩ := h
          simp only [gids, hrow] at hX hnd hf ⊢
          obtain ⟨hid', hnd'⟩ := List.nodup_cons.1 hnd
          obtain ⟨cs0, ty0, u0, a1, a2, a3, a4, a5⟩ := hw1.row id _ _ hrow
          obtain ⟨ι', ht, hlen, c1, c2⟩ := givE hw1 ih sz' xs m u0 hmm (by simpa only [flat] using hfl) a3 a5 (fun g hg => hX g (List.mem_cons_of_mem _ hg)) hnd' σ n ι hw (fun g hg => hf g (List.mem_cons_of_mem _ hg))
          have hml : m.length = xs.length := (mapM_get' _ _ _ hmm).1.symm
          have hlive : ∀ g ∈ xs.flatMap (fun x => x.cells.flatMap (gids σ1 k)), σ1 g ≠ none := by
            have := giv_live (σ := σ1) (k + 1) (.ref id 0 xs.length sz') (.own sz' m) (by simp [giv, hrow, hmm])
            simp only [gids, hrow] at this
            exact fun g hg => this g (List.mem_cons_of_mem _ hg)
          have hfr : Fr ι1 [id] (thawL σ n m).2.1 ι' := ht.fr hw1 hw (fun g hg => by simp at hg; subst hg; exact hf _ (by simp)) hlive (fun g hg => by simp at hg; subst hg; rw [hrow]; simp)
            (fun g hg hg' => by simp at hg'; subst hg'; exact hid' hg)
          have hfr' := hfr id (by simp)
          generalize hT : thawL σ n m = T at *
          obtain ⟨ys, σ2, n2⟩ := T
          simp only [thaw, hT] at *
          have hi1 : ∀ q, q < n2 → (fun i => if i = n2 then ι1 id else ι' i) q = ι' q := fun q hq => by simp; omega
          have hmv : ∀ {v u}, Rep w Xf ι' n2 v u → Rep w Xf (fun i => if i = n2 then ι1 id else ι' i) (n2 + 1) v u := fun hh =>
            hh.move (Nat.le_refl _) (fun _ _ _ => rfl) (fun _ c _ _ h => ⟨c, h, rfl⟩) hi1 (fun _ _ h => h) (by omega)
          have hn2 : σ2 n2 = none := by
            cases hh : σ2 n2 with
            | none => rfl
            | some o => have := ht.wf.dom n2 (by rw [hh]; simp); omega
          have hne : ∀ q, upd σ2 n2 (some (.row sz' ys)) q ≠ none → q ≠ n2 → σ2 q ≠ none := fun q hq e => by simpa [upd, e] using hq
          refine ⟨fun i => if i = n2 then ι1 id else ι' i, ⟨?_, by have := ht.le; omega, fun q hq => by
            have := ht.le
            exact (hi1 q (by omega)).trans (ht.ix q hq), fun q hq hs => ?_, fun q hq => ?_⟩, ?_, fun _ => rfl⟩
          · constructor
            · intro q sz'' zs hh
              by_cases e : q = n2
              · subst e
                simp only [upd, if_true, Option.some.injEq, Ob.row.injEq] at hh
                obtain ⟨rfl, rfl⟩ := hh
                simp only [if_true]
                refine ⟨cs0, ty0, u0, a1, by rw [hlen]; exact a2, c1, fun i x j e hx he => ?_, fun i x j e hx he => hmv (c2 i x j e hx he)⟩
                obtain ⟨p1, p2⟩ := c1 i x hx
                have hi : i < xs.length := by have := (List.getElem?_eq_some_iff.1 hx).1; omega
                have hj : j < xs[i].cells.length := by
                  have := (List.getElem?_eq_some_iff.1 he).1
                  have := (a3 i _ (List.getElem?_eq_getElem hi)).1
                  omega
                exact a4 i _ j _ (List.getElem?_eq_getElem hi) (List.getElem?_eq_getElem hj)
              · simp only [upd, e, if_false] at hh
                obtain ⟨cells', ty', u', b1, b2, b3, b4, b5⟩ := ht.wf.row q _ _ hh
                simp only [e, if_false]
                exact ⟨cells', ty', u', b1, b2, b3, b4, fun i x j e hx he => hmv (b5 i x j e hx he)⟩
            · intro q env ps a b st pend hh
              by_cases e : q = n2
              · subst e; simp [upd] at hh
              · simp only [upd, e, if_false] at hh
                obtain ⟨r, b1, b2⟩ := ht.wf.loop q _ _ _ _ _ _ hh
                simp only [e, if_false]
                exact ⟨r, b1, b2.hst, b2.hpend, b2.hpn, b2.hps, b2.code, fun t => hmv (b2.rep t)⟩
            · intro q hq
              by_cases e : q = n2
              · subst e; simp only [if_true]; exact hX id (by simp)
              · simp only [e, if_false]; exact ht.wf.own q (hne q hq e)
            · intro q q' hq hq' he
              by_cases e : q = n2 <;> by_cases e' : q' = n2
              · omega
              · simp only [e, e', if_true, if_false] at he
                exact absurd he.symm (hfr' q' (hne q' hq' e'))
              · simp only [e, e', if_true, if_false] at he
                exact absurd he (hfr' q (hne q hq e))
              · simp only [e, e', if_false] at he
                exact ht.wf.inj q q' (hne q hq e) (hne q' hq' e') he
            · intro q hq
              by_cases e : q = n2
              · omega
              · have := ht.wf.dom q (hne q hq e); omega
            · exact ht.wf.xlt
          · by_cases e : q = n2
            · exact ⟨id, by simp, by simp [e]⟩
            · obtain ⟨g, hg, eg⟩ := ht.new q hq (hne q hs e)
              exact ⟨g, List.mem_cons_of_mem _ hg, by simp only [e, if_false]; exact eg⟩
          · have := ht.le
            have e : q ≠ n2 := by omega
            simp only [upd, e, if_false]
            exact ht.old q hq
          · rw [hml]
            have := Rep.ref (w := w) (X := Xf) (ι := fun i => if i = n2 then ι1 id else ι' i) (n := n2 + 1) n2 0 xs.length sz' c o cells ty fz (by omega) hc ho (by simpa using hm) hz
            simpa using this
        · cases h
      · cases h

end
end Go.Q
end

section
/- A call on trees: what its caller has when it is back. -/
set_option linter.unusedSimpArgs false
set_option linter.unusedVariables false
set_option linter.unusedSectionVars false
namespace Go.Q
variable [Link]

section
variable {w w' : World} {X X' : Nat → Prop} {ι ι' : Nat → Nat} {σ σ' : Sto} {n n' lk : Nat}

/-- A tree with no rows in it stands whatever is owned. -/
theorem flat_rep {v : V} {u : Value} (h : Rep w X ι n v u) (hf : flat v = true) : Rep w X' ι' n' v u := by
  have key : ∀ cs : List V, flatL cs = true → ∀ (i : Nat) (e : V), cs[i]? = some e → flat e = true := by
    intro cs
    induction cs with
    | nil => intro _ i e he; simp at he
    | cons c cs ih =>
      intro h i e he
      simp only [flatL, Bool.and_eq_true] at h
      cases i with
      | zero => simp at he; subst he; exact h.1
      | succ i => exact ih h.2 i e (by simpa using he)
  induction h with
  | int k m => exact .int k m
  | bool b => exact .bool b
  | str s => exact .str s
  | nilS => exact .nilS
  | sl => simp [flat] at hf
  | slE => simp [flat] at hf
  | ref => simp [flat] at hf
  | agg cs us hl hr ih => exact .agg cs us hl (fun i e u he hu => ih i e u he hu (key cs (by simpa only [flat] using hf) i e he))
  | tup cs us hl hr ih => exact .tup cs us hl (fun i e u he hu => ih i e u he hu (key cs (by simpa only [flat] using hf) i e he))
  | nilP => exact .nilP
  | ptr => simp [flat] at hf
  | box => simp [flat] at hf
  | fn f cs us hl hr ih => exact .fn f cs us hl (fun i e u he hu => ih i e u he hu (key cs (by simpa only [flat] using hf) i e he))
  | bnd => simp [flat] at hf
  | yld => simp [flat] at hf
  | nilF => exact .nilF
  | iface t x u hr ih => exact .iface t x u (ih (by simpa only [flat] using hf))
  | nilI => exact .nilI
  | undef => exact .undef

/-- What a function called on trees leaves behind. -/
def Back (m : Mode) (w w' : World) (X0 : Nat → Prop) (r : V) (u : Value) : Prop :=
  ∃ X1 ι1 σ1 n1 v, WF w' X1 ι1 σ1 n1 ∧ Rep w' X1 ι1 n1 v u ∧ back m σ1 v r ∧ Ext w w' X0 X1 (fun _ => 0) ι1 Sto.empty σ1 0 n1 0

theorem dropL_nil (σ : Sto) : dropL σ [] = σ := by funext id; simp [dropL]

theorem call_back (hw : WF w X ι σ n) (hl : lk ≤ n) {D D0 : List Nat} {m : Mode} {r : V} {u : Value} (hD : D = if flat r then [] else D0) (hlk : ∀ id ∈ D, lk ≤ id)
    (hb : Back m w w' (cutX X ι σ D0) r u) :
    ∃ X' ι', WF w' X' ι' (thaw (dropL σ D) n r).2.1 (thaw (dropL σ D) n r).2.2 ∧ Rep w' X' ι' (thaw (dropL σ D) n r).2.2 (thaw (dropL σ D) n r).1 u ∧
      Ext w w' X X' ι ι' σ (thaw (dropL σ D) n r).2.1 n (thaw (dropL σ D) n r).2.2 lk := by
  obtain ⟨X1, ι1, σ1, n1, v, hw1, hr1, hback, he⟩ := hb
  have hnoown : ∀ b, ¬ Own Sto.empty (fun _ => 0) 0 b := fun b h => by obtain ⟨id, _, h1, _⟩ := h; exact h1 rfl
  have hheap : ∀ b, b < w.heap.size → w'.heap[b]? = w.heap[b]? := fun b hb => he.heap b hb (hnoown b)
  have hX1 : ∀ b, cutX X ι σ D0 b → X1 b := fun b hb => he.xold b hb (hnoown b)
  have hnew : ∀ id, σ1 id ≠ none → w.heap.size ≤ ι1 id := fun id h => by
    by_cases hlt : ι1 id < w.heap.size
    · exact absurd (he.own id (Nat.zero_le _) h hlt) (hnoown _)
    · omega
  have hsub : ∀ id ∈ D, id ∈ D0 := fun id h => by
    rw [hD] at h
    split at h
    · cases h
    · exact h
  have hcut : ∀ b, cutX X ι σ D0 b → cutX X ι σ D b := fun b h => ⟨h.1, fun id hid => h.2 id (hsub id hid)⟩
  have hcutlt : ∀ b, cutX X ι σ D b → b < w.heap.size := fun b h => hw.xlt b h.1
  have hw0 := dropL_wf hw D
  -- the caller's own state, with blocks of its own in Xf
  have fin : ∀ (G : List Nat) (Xf : Nat → Prop) (ι' : Nat → Nat), (∀ g ∈ G, σ1 g ≠ none) → (∀ b, Xf b ↔ cutX X ι σ D b ∨ ∃ g ∈ G, ι1 g = b) →
      Thr w' Xf ι1 G (dropL σ D) n ι (thaw (dropL σ D) n r).2.1 (thaw (dropL σ D) n r).2.2 ι' →
      Ext w w' X Xf ι ι' σ (thaw (dropL σ D) n r).2.1 n (thaw (dropL σ D) n r).2.2 lk := by
    intro G Xf ι' hG hXf ht
    have hblk : ∀ g ∈ G, w.heap.size ≤ ι1 g := fun g hg => hnew g (hG g hg)
    refine ⟨ht.le, he.os, he.tape, he.output, he.size, fun b hb _ => hheap b hb, he.cells, he.loops, ht.ix, ?_, ?_, hw.xlt, ?_, ?_⟩
    · intro b hb hx
      rcases (hXf b).1 hx with h | ⟨g, hg, e⟩
      · exact h.1
      · have := hblk g hg; omega
    · intro b hx ho
      refine (hXf b).2 (.inl ⟨hx, fun id hid hs e => ho ⟨id, hlk id hid, hs, e⟩⟩)
    · intro id hid hs hlt
      by_cases hn : id < n
      · rw [ht.old id hn] at hs
        refine ⟨id, hid, ?_, (ht.ix id hn).symm⟩
        intro h0
        simp only [dropL, h0, ite_self] at hs
        exact hs rfl
      · obtain ⟨g, hg, e⟩ := ht.new id (by omega) hs
        have := hblk g hg
        omega
    · intro id hid
      rw [ht.old id (by omega)]
      have : id ∉ D := fun h => by have := hlk id h; omega
      simp [dropL, this]
  have hmv : ∀ {Xf : Nat → Prop}, (∀ b, b < w.heap.size → (Xf b ↔ cutX X ι σ D b)) → (∀ b, Xf b → b < w'.heap.size) → WF w' Xf ι (dropL σ D) n := fun h1 h2 =>
    hw0.move he.size hheap (fun _ _ => rfl) h1 (Nat.le_refl _) h2
  by_cases hm : m = .own
  · subst hm
    simp only [back] at hback
    obtain ⟨hg, hnd⟩ := hback
    have hlive := giv_live _ _ _ hg
    have hXf : ∀ b, b < w.heap.size → ((cutX X ι σ D b ∨ ∃ g ∈ gids σ1 DEEP v, ι1 g = b) ↔ cutX X ι σ D b) := fun b hb =>
      ⟨fun h => h.resolve_right (fun ⟨g, hg, e⟩ => by have := hnew g (hlive g hg); omega), .inl⟩
    have hlt : ∀ b, (cutX X ι σ D b ∨ ∃ g ∈ gids σ1 DEEP v, ι1 g = b) → b < w'.heap.size := fun b h => by
      rcases h with h | ⟨g, hg, e⟩
      · exact Nat.lt_of_lt_of_le (hcutlt b h) he.size
      · exact e ▸ hw1.xlt _ (hw1.own g (hlive g hg))
    have hfl : flat r = true ∨ ∀ b, (cutX X ι σ D b ∨ ∃ g ∈ gids σ1 DEEP v, ι1 g = b) → X1 b := by
      cases hf : flat r with
      | true => exact .inl rfl
      | false =>
        right
        intro b h
        have hDD : D = D0 := by rw [hD, hf]; simp
        rcases h with h | ⟨g, hg, e⟩
        · exact hX1 b (hDD ▸ h)
        · exact e ▸ hw1.own g (hlive g hg)
    obtain ⟨ι', ht, hrep, -⟩ := giv_ok (Xf := fun b => cutX X ι σ D b ∨ ∃ g ∈ gids σ1 DEEP v, ι1 g = b) hw1 DEEP v r u hg hfl hr1 (fun g hg => .inr ⟨g, hg, rfl⟩) hnd (dropL σ D) n ι
      (hmv hXf hlt) (fun g hg id hs e => by
        have h1 := hcutlt _ (hw0.own id hs)
        have h2 := hnew g (hlive g hg)
        omega)
    exact ⟨_, ι', ht.wf, hrep, fin _ _ ι' hlive (fun b => Iff.rfl) ht⟩
  · have hfrz : frz σ1 DEEP v = some r := by
      cases m <;> simp only [back] at hback <;> first | exact hback | exact absurd rfl hm
    have hth := thaw_frz DEEP v r hfrz (dropL σ D) n
    rw [hth]
    have hrep := frz_rep (ι' := ι) (n' := n) hw1 (D := rch σ1 DEEP v) DEEP v r u hfrz hr1 (fun _ h => h)
    refine ⟨cutX X ι σ D, ι, hmv (fun _ _ => Iff.rfl) (fun b h => Nat.lt_of_lt_of_le (hcutlt b h) he.size), ?_, ?_⟩
    · cases hf : flat r with
      | true => exact flat_rep hrep hf
      | false =>
        have hDD : D = D0 := by rw [hD, hf]; simp
        refine hrep.move (Nat.le_refl _) (fun _ _ _ => rfl) (fun _ c _ _ h => ⟨c, h, rfl⟩) (fun _ _ => rfl) (fun b _ h => ?_) (Nat.le_refl _)
        rw [hDD] at h
        refine ⟨hX1 b h, fun id hid hs e => ?_⟩
        have h1 := hnew id hs
        have h2 := hw.xlt b h.1
        omega
    · have ht : Thr w' (cutX X ι σ D) ι1 [] (dropL σ D) n ι (dropL σ D) n ι := Thr.refl (hmv (fun _ _ => Iff.rfl) (fun b h => Nat.lt_of_lt_of_le (hcutlt b h) he.size))
      have := fin [] (cutX X ι σ D) ι (by simp) (by simp) (by rw [hth]; exact ht)
      rwa [hth] at this

/-- Arguments read out as trees. -/
theorem args_frz (hw : WF w X ι σ n) {args ts : List V} {us : Array Value} (h : args.mapM (frz σ DEEP) = some ts) (hs : us.size = args.length)
    (hr : ∀ (i : Nat) (e : V) (u : Value), args[i]? = some e → us[i]? = some u → Rep w X ι n e u) :
    us.size = ts.length ∧ ∀ (i : Nat) (e : V) (u : Value), ts[i]? = some e → us[i]? = some u → Rep w (cutX X ι σ (args.flatMap (rch σ DEEP))) (fun _ => 0) 0 e u := by
  refine ⟨hs.trans (mapM_get' _ _ _ h).1, fun i e u he hu => ?_⟩
  obtain ⟨a, ha, hf⟩ := mapM_back h he
  exact frz_rep hw DEEP a e u hf (hr i a u ha hu) (fun id hid => List.mem_flatMap.2 ⟨a, List.mem_of_getElem? ha, hid⟩)

end
end Go.Q
end

section
/- Records of loops over functions in memory. -/
set_option linter.unusedSimpArgs false
set_option linter.unusedVariables false
set_option linter.unusedSectionVars false
namespace Go.Q
variable [Link]

section
variable {w w' : World} {X X' : Nat → Prop} {ι ι' : Nat → Nat} {σ σ' : Sto} {n n' lk : Nat}

/-- A block without cells is rewritten: cells stay. -/
theorem cell_put {b0 : Nat} {o o0 : Obj} (h0 : w.heap[b0]? = some o0) (hc : ∀ c t f, o0 ≠ .cells c t f) {b k : Nat} {u : Value} (h : w.cell? ⟨b, k, none⟩ = some u)
    (hv : ∀ c t, o0 ≠ .pending c t) : (w.putObj b0 o).cell? ⟨b, k, none⟩ = some u := by
  have hb : b ≠ b0 := by
    rintro rfl
    simp only [World.cell?, h0] at h
    cases o0 <;> simp_all
  simp only [World.cell?, World.putObj_heap_other hb] at *
  exact h

theorem Rep.put {b0 : Nat} {o o0 : Obj} (h0 : w.heap[b0]? = some o0) (hc : ∀ c t f, o0 ≠ .cells c t f) (hv : ∀ c t, o0 ≠ .pending c t) {v : V} {u : Value} (h : Rep w X ι n v u) :
    Rep (w.putObj b0 o) X ι n v u := by
  induction h with
  | int k m => exact .int k m
  | bool b => exact .bool b
  | str s => exact .str s
  | nilS => exact .nilS
  | sl sz xs b o' c u hc' hX hb hs hm hr ih =>
    exact .sl sz xs b o' c u hc' hX (by simpa using hb) hs (fun i x j e hx he => cell_put h0 hc (hm i x j e hx he) hv) ih
  | slE sz c a => exact .slE sz c a
  | ref id off len sz c o' cells ty fz hid hc' ho hm hz =>
    have hb : ι id ≠ b0 := by
      intro e; rw [e, h0] at hm; cases hm; exact hc _ _ _ rfl
    exact .ref id off len sz c o' cells ty fz hid hc' ho (by rw [World.putObj_heap_other hb]; exact hm) hz
  | agg cs us hl hr ih => exact .agg cs us hl ih
  | tup cs us hl hr ih => exact .tup cs us hl ih
  | nilP => exact .nilP
  | ptr id sz i j hid hb => exact .ptr id sz i j hid (by simpa using hb)
  | box cs b o' u hX hb h1' hm hr ih => exact .box cs b o' u hX (by simpa using hb) h1' (fun j e he => cell_put h0 hc (hm j e he) hv) ih
  | fn f cs us hl hr ih => exact .fn f cs us hl ih
  | bnd f cs us hl hr ih => exact .bnd f cs us hl ih
  | yld l hid hb => exact .yld l hid (by simpa using hb)
  | nilF => exact .nilF
  | iface t x u hr ih => exact .iface t x u ih
  | nilI => exact .nilI
  | undef => exact .undef

/-- A block that no object of the store stands in is rewritten. -/
theorem put_dead (hw : WF w X ι σ n) {b0 : Nat} {o o0 : Obj} (h0 : w.heap[b0]? = some o0) (hc : ∀ c t f, o0 ≠ .cells c t f) (hv : ∀ c t, o0 ≠ .pending c t)
    (hd : ∀ id, σ id ≠ none → ι id ≠ b0) : WF (w.putObj b0 o) X ι σ n where
  row := fun id sz xs h => by
    obtain ⟨cells, ty, u, a1, a2, a3, a4, a5⟩ := hw.row id sz xs h
    exact ⟨cells, ty, u, by rw [World.putObj_heap_other (hd id (by rw [h]; simp))]; exact a1, a2, a3, a4, fun i x j e hx he => (a5 i x j e hx he).put h0 hc hv⟩
  loop := fun l env ps a b st pend h => by
    obtain ⟨r, a1, a2⟩ := hw.loop l env ps a b st pend h
    exact ⟨r, by rw [World.putObj_heap_other (hd l (by rw [h]; simp))]; exact a1, a2.hst, a2.hpend, a2.hpn, a2.hps, a2.code, fun t => (a2.rep t).put h0 hc hv⟩
  own := hw.own
  inj := hw.inj
  dom := hw.dom
  xlt := fun b h => by simpa using hw.xlt b h

/-- A record is rewritten. -/
theorem put_loop (hw : WF w X ι σ n) {l : Nat} {r r' : Loop} {o : Ob} (h : σ l = some o) (h0 : w.heap[ι l]? = some (.loop r)) (hl : lk ≤ l)
    {env : Nat → V} {ps : List Nat} {a b : AC} {st : LSt} {pend : Option Ex} (hr : LoopRep w X ι n r' env ps a b st pend) :
    WF (w.putObj (ι l) (.loop r')) X ι (upd σ l (some (.loop env ps a b st pend))) n ∧
      Ext w (w.putObj (ι l) (.loop r')) X X ι ι σ (upd σ l (some (.loop env ps a b st pend))) n n lk := by
  have hlt := (Array.getElem?_eq_some_iff.1 h0).1
  have hc : ∀ c t f, Obj.loop r ≠ .cells c t f := fun _ _ _ h => by cases h
  have hv : ∀ c t, Obj.loop r ≠ .pending c t := fun _ _ h => by cases h
  have hne : ∀ id, σ id ≠ none → id ≠ l → ι id ≠ ι l := fun id h1 h2 e => h2 (hw.inj id l h1 (by rw [h]; simp) e)
  have key : ∀ id, upd σ l (some (.loop env ps a b st pend)) id ≠ none → σ id ≠ none := fun id hh => by
    by_cases e : id = l
    · rw [e, h]; simp
    · simpa [upd, e] using hh
  constructor
  · constructor
    · intro id sz xs hh
      by_cases e : id = l
      · subst e; simp [upd] at hh
      · simp only [upd, e, if_false] at hh
        obtain ⟨cells, ty, u, a1, a2, a3, a4, a5⟩ := hw.row id sz xs hh
        exact ⟨cells, ty, u, by rw [World.putObj_heap_other (hne id (by rw [hh]; simp) e)]; exact a1, a2, a3, a4, fun i x j e hx he => (a5 i x j e hx he).put h0 hc hv⟩
    · intro id env' ps' a' b' st' pend' hh
      by_cases e : id = l
      · subst e
        simp only [upd, if_true, Option.some.injEq, Ob.loop.injEq] at hh
        obtain ⟨rfl, rfl, rfl, rfl, rfl, rfl⟩ := hh
        exact ⟨r', World.putObj_heap_same hlt, hr.hst, hr.hpend, hr.hpn, hr.hps, hr.code, fun t => (hr.rep t).put h0 hc hv⟩
      · simp only [upd, e, if_false] at hh
        obtain ⟨q, a1, a2⟩ := hw.loop id _ _ _ _ _ _ hh
        exact ⟨q, by rw [World.putObj_heap_other (hne id (by rw [hh]; simp) e)]; exact a1, a2.hst, a2.hpend, a2.hpn, a2.hps, a2.code, fun t => (a2.rep t).put h0 hc hv⟩
    · exact fun id hh => hw.own id (key id hh)
    · exact fun i j h1 h2 => hw.inj i j (key i h1) (key j h2)
    · exact fun id hh => hw.dom id (key id hh)
    · exact fun b hb => by simpa using hw.xlt b hb
  · exact {
      hn := Nat.le_refl _, os := rfl, tape := rfl, output := rfl, size := by simp
      heap := fun b _ ho => World.putObj_heap_other (fun e => ho ⟨l, hl, by rw [h]; simp, e.symm⟩)
      cells := fun b c t f hb => by
        have hb' : b ≠ ι l := by rintro rfl; rw [h0] at hb; cases hb
        exact ⟨c, by rw [World.putObj_heap_other hb']; exact hb, rfl⟩
      loops := fun b q hb => by
        by_cases e : b = ι l
        · exact ⟨r', by rw [e]; exact World.putObj_heap_same hlt⟩
        · exact ⟨q, by rw [World.putObj_heap_other e]; exact hb⟩
      hι := fun _ _ => rfl, xnew := fun _ _ h => h, xold := fun _ h _ => h, xlt := hw.xlt
      own := fun id h1 h2 _ => ⟨id, h1, key id h2, rfl⟩
      lock := fun id h1 => by simp [upd]; omega }

/-- A loop is over: its record falls out. -/
theorem end_loop (hw : WF w X ι σ n) {l : Nat} {r r' : Loop} (h : σ l ≠ none) (h0 : w.heap[ι l]? = some (.loop r)) (hl : lk ≤ l) :
    WF (w.putObj (ι l) (.loop r')) X ι (upd σ l none) n ∧ Ext w (w.putObj (ι l) (.loop r')) X X ι ι σ (upd σ l none) n n lk := by
  have hc : ∀ c t f, Obj.loop r ≠ .cells c t f := fun _ _ _ h => by cases h
  have hv : ∀ c t, Obj.loop r ≠ .pending c t := fun _ _ h => by cases h
  obtain ⟨d1, d2⟩ := drop_obj hw l hl
  have key : ∀ id, upd σ l none id ≠ none → σ id ≠ none ∧ id ≠ l := fun id hh => by
    by_cases e : id = l
    · simp [upd, e] at hh
    · exact ⟨by simpa [upd, e] using hh, e⟩
  refine ⟨put_dead d1 h0 hc hv (fun id hh e => (key id hh).2 (hw.inj id l (key id hh).1 h e)), ?_⟩
  exact {
    hn := Nat.le_refl _, os := rfl, tape := rfl, output := rfl, size := by simp
    heap := fun b _ ho => World.putObj_heap_other (fun e => ho ⟨l, hl, h, e.symm⟩)
    cells := fun b c t f hb => by
      have hb' : b ≠ ι l := by rintro rfl; rw [h0] at hb; cases hb
      exact ⟨c, by rw [World.putObj_heap_other hb']; exact hb, rfl⟩
    loops := fun b q hb => by
      by_cases e : b = ι l
      · exact ⟨r', by rw [e]; exact World.putObj_heap_same (Array.getElem?_eq_some_iff.1 h0).1⟩
      · exact ⟨q, by rw [World.putObj_heap_other e]; exact hb⟩
    hι := fun _ _ => rfl, xnew := fun _ _ h => h, xold := fun _ h _ => h, xlt := hw.xlt
    own := fun id h1 h2 _ => ⟨id, h1, (key id h2).1, rfl⟩
    lock := fun id h1 => by simp [upd]; omega }

/-- A block is laid that the store does not speak of. -/
theorem lay_block (hw : WF w X ι σ n) (o : Obj) : WF (w.alloc o) X ι σ n ∧ Ext w (w.alloc o) X X ι ι σ σ n n lk := by
  refine ⟨hw.move (by simp) (fun b hb => Go.RowKit.Below.heap_alloc _ _ _ hb) (fun _ _ => rfl) (fun _ _ => Iff.rfl) (Nat.le_refl _) (fun b h => by have := hw.xlt b h; simp; omega), ?_⟩
  exact {
    hn := Nat.le_refl _, os := rfl, tape := rfl, output := rfl, size := by simp
    heap := fun b hb _ => Go.RowKit.Below.heap_alloc _ _ _ hb
    cells := fun b c t f h => ⟨c, by rw [Go.RowKit.Below.heap_alloc _ _ _ (Array.getElem?_eq_some_iff.1 h).1]; exact h, rfl⟩
    loops := fun b r h => ⟨r, by rw [Go.RowKit.Below.heap_alloc _ _ _ (Array.getElem?_eq_some_iff.1 h).1]; exact h⟩
    hι := fun _ _ => rfl, xnew := fun _ _ h => h, xold := fun _ h _ => h, xlt := hw.xlt
    own := fun id h1 h2 _ => ⟨id, h1, h2, rfl⟩
    lock := fun _ _ => rfl }

/-- A record is laid. -/
theorem new_loop (hw : WF w X ι σ n) (hl : lk ≤ n) {r : Loop} {env : Nat → V} {ps : List Nat} {a b : AC} {st : LSt} {pend : Option Ex} (hr : LoopRep w X ι n r env ps a b st pend) :
    WF (w.alloc (.loop r)) (addX X w.heap.size) (setι ι n w.heap.size) (upd σ n (some (.loop env ps a b st pend))) (n + 1) ∧
      Ext w (w.alloc (.loop r)) X (addX X w.heap.size) ι (setι ι n w.heap.size) σ (upd σ n (some (.loop env ps a b st pend))) n (n + 1) lk := by
  have hm1 : WF (w.alloc (.loop r)) (addX X w.heap.size) (setι ι n w.heap.size) σ (n + 1) :=
    hw.move (by simp) (fun b hb => Go.RowKit.Below.heap_alloc _ _ _ hb) (fun id h => by simp [setι]; omega)
      (fun b hb => ⟨fun h => by rcases h with h | h; exact h; omega, fun h => .inl h⟩) (by omega)
      (fun b h => by rcases h with h | h; have := hw.xlt b h; simp; omega; simp; omega)
  have hn : σ n = none := by
    cases h : σ n with
    | none => rfl
    | some o => have := hw.dom n (by rw [h]; simp); omega
  have hlt : ∀ i, σ i ≠ none → setι ι n w.heap.size i < w.heap.size := fun i hi => by
    have := hw.dom i hi
    have h2 := hw.xlt _ (hw.own i hi)
    simp [setι]; split <;> omega
  constructor
  · constructor
    · intro id sz xs h
      by_cases e : id = n
      · subst e; simp [upd] at h
      · simp only [upd, e, if_false] at h; exact hm1.row id sz xs h
    · intro l env' ps' a' b' st' pend' h
      by_cases e : l = n
      · subst e
        simp only [upd, if_true, Option.some.injEq, Ob.loop.injEq] at h
        obtain ⟨rfl, rfl, rfl, rfl, rfl, rfl⟩ := h
        refine ⟨r, by simpa [setι] using World.alloc_heap_new w (.loop r), ?_⟩
        exact hr.move (by simp) (fun b hb _ => Go.RowKit.Below.heap_alloc _ _ _ hb)
          (fun b c t f hh => ⟨c, by rw [Go.RowKit.Below.heap_alloc _ _ _ (Array.getElem?_eq_some_iff.1 hh).1]; exact hh, rfl⟩)
          (fun id h => by simp [setι]; omega) (fun b hb h => by rcases h with h | h; exact h; omega) (by omega)
      · simp only [upd, e, if_false] at h
        exact hm1.loop l _ _ _ _ _ _ h
    · intro id h
      by_cases e : id = n
      · subst e; right; simp [setι]
      · simp only [upd, e, if_false] at h; exact hm1.own id h
    · intro id id' h h' he
      by_cases e : id = n <;> by_cases e' : id' = n
      · omega
      · simp only [upd, e', if_false] at h'
        have := hlt id' h'
        rw [← he, e] at this; simp [setι] at this
      · simp only [upd, e, if_false] at h
        have := hlt id h
        rw [he, e'] at this; simp [setι] at this
      · simp only [upd, e, e', if_false] at h h'
        exact hm1.inj id id' h h' he
    · intro id h
      by_cases e : id = n
      · omega
      · simp only [upd, e, if_false] at h; exact hm1.dom id h
    · exact hm1.xlt
  · exact {
      hn := by omega, os := rfl, tape := rfl, output := rfl, size := by simp
      heap := fun b hb _ => Go.RowKit.Below.heap_alloc _ _ _ hb
      cells := fun b c t f h => ⟨c, by rw [Go.RowKit.Below.heap_alloc _ _ _ (Array.getElem?_eq_some_iff.1 h).1]; exact h, rfl⟩
      loops := fun b r h => ⟨r, by rw [Go.RowKit.Below.heap_alloc _ _ _ (Array.getElem?_eq_some_iff.1 h).1]; exact h⟩
      hι := fun id h => by simp [setι]; omega
      xnew := fun b hb h => by rcases h with h | h; exact h; omega
      xold := fun b h _ => .inl h
      xlt := hw.xlt
      own := fun id hl' h hb => by
        by_cases e : id = n
        · simp [setι, e] at hb
        · simp only [setι, upd, e, if_false] at *
          exact ⟨id, hl', h, rfl⟩
      lock := fun id h => by simp [upd]; omega }

end
end Go.Q
end

section
/- Loaded code, its static parts worked in. -/
set_option linter.unusedSimpArgs false
set_option linter.unusedVariables false
set_option linter.unusedSectionVars false
namespace Go.Q

def fits (N : Nat) : Option Nat → Bool
  | some d => d < N
  | none => true

def cOper (P : Program) (N : Nat) (ops : Array Oper) (o : Oper) : Option AOp :=
  match cOp P o with
  | none => none
  | some ai =>
    if fits N o.dst then
      match o.guard with
      | none => some ⟨o.dst, none, ai⟩
      | some (j, want) => match (ops[j]?).bind (·.dst) with
        | some t => some ⟨o.dst, some (t, want), ai⟩
        | none => none
    else none

/-- The operands of an operation. -/
def AI.opds : AI → List Opd
  | .mov x | .box x | .load _ _ x | .nilck x | .eqN _ x | .eqF _ x | .un _ x | .conv _ x | .mksl _ _ _ x | .faddr x _ | .fld _ _ _ x | .ext x _ | .len x | .lenS x | .mkif _ x | .tas _ _ _ x => [x]
  | .pick c a b => [c, a, b]
  | .alloc _ => []
  | .build _ ps => ps.map (·.2.2)
  | .lit _ es | .mkfn _ es | .mkbnd _ es | .min es | .max es | .call _ es => es
  | .callv g es => g :: es
  | .inv x _ es => x :: es
  | .slice3 _ x l h m => x :: (l.toList ++ [h, m])
  | .store _ x y | .bin _ x y | .eqB _ x y | .eqA _ _ x y | .iaddr _ x y | .iaddrA _ _ x y | .idxA _ _ _ x y | .idxS x y | .append _ _ x y => [x, y]
  | .slice _ x l h | .sliceS x l h => x :: (l.toList ++ h.toList)

/-- Does it neither look at the store nor change it? -/
def AI.pure : AI → Bool
  | .mov _ | .nilck _ | .eqN .. | .eqF .. | .un .. | .conv .. | .faddr .. | .fld .. | .ext .. | .len _ | .lenS _ | .mkif .. | .tas .. | .slice3 .. | .pick .. | .build .. | .mkfn .. | .mkbnd .. | .min _ | .max _
  | .bin .. | .eqB .. | .eqA .. | .iaddr .. | .iaddrA .. | .idxA .. | .idxS .. | .slice .. | .sliceS .. => true
  | _ => false

def AI.lays (own : Nat → Bool) : AI → Bool
  | .alloc _ | .box _ | .lit .. | .mksl .. | .append .. => true
  | .call f _ => own f
  | _ => false

def AOp.reads (o : AOp) : List Nat := (o.op.opds.filterMap fun x => match x with | .tmp t => some t | .con _ => none) ++ (match o.guard with | some (t, _) => [t] | none => [])

/-- What must come earlier, for each operation: as bits. -/
def cBef (ops : List Oper) : Option (List Nat) :=
  let go := ops.foldl (init := some ([] : List Nat)) fun acc o => acc.bind fun (l : List Nat) =>
    let i := l.length
    (o.after.toList.foldl (init := some 0) fun (m : Option Nat) e => m.bind fun m =>
      if Region.binds .any e then (l[e.on]?).map fun m' => m ||| m' ||| (1 <<< e.on) else some m).map fun m => l ++ [m]
  go

def apart (bef : List Nat) (i j : Nat) : Bool := !((bef[i]?).getD 0).testBit j && !((bef[j]?).getD 0).testBit i

def meets : Option Nat → List Nat → Bool
  | some d, l => l.contains d
  | none, _ => false

def DOp.calm (d : DOp) : Bool := !d.pure && !d.wr
def DOp.lo (d : DOp) : Nat := d.low.getD d.rank

/-- What the one may write of what was laid in the region, the other one does not see, or the one itself does not. -/
def lowOk (a b : DOp) : Bool := !(a.calm && b.calm) || (List.range a.rank).all fun r => decide (r < a.lo) || a.hid.contains r || b.hid.contains r

/-- May these two, the first listed ahead, come in either order? -/
def pairOk (a b : DOp) : Bool :=
  !meets a.o.dst b.o.reads && !meets b.o.dst a.o.reads && !(meets a.o.dst b.o.dst.toList) && (!a.wr || b.pure) && (!b.wr || a.pure) &&
  (!(b.calm && a.lays) || b.hid.contains a.rank) && (!(a.calm && b.lays) || a.hid.contains b.rank) && lowOk a b && lowOk b a

/-- Is the table of what comes earlier closed? -/
def befOk (bef : List Nat) (ops : List Oper) : Bool :=
  ops.zipIdx.all fun (o, i) => (o.after.toList.all fun e => !Region.binds .any e || e.on < i) && (List.range ops.length).all fun j => !((bef[i]?).getD 0).testBit j ||
    (j < i && o.after.toList.any fun e => Region.binds .any e && (e.on == j || ((bef[e.on]?).getD 0).testBit j))

/-- Is every pair that may come in either order fit for it, and are the ranks in order? -/
def okDraw (bef : List Nat) (tot : Nat) : List DOp → Nat → Bool
  | [], _ => true
  | d :: ds, i => (d.rank + (if d.lays then 1 else 0) ≤ tot) && (!d.pure || (d.o.op.pure && !d.lays)) && (d.lo ≤ d.rank) &&
      (ds.zipIdx.all fun (b, k) => (d.rank + (if d.lays then 1 else 0) ≤ b.rank) && (!apart bef i (i + 1 + k) || pairOk d b)) && okDraw bef tot ds (i + 1)

/-- A constant that speaks of no object. -/
def V.plain1 : V → Bool
  | .int .. | .bool _ | .str _ | .nilS | .nilP | .nilF | .nilI | .fn _ [] => true
  | _ => false
def V.plain : V → Bool
  | .agg cs => cs.all V.plain1
  | v => v.plain1

/-- Must everything behind h come later than everything ahead of it? -/
def bar (bef : List Nat) (n h : Nat) : Bool := (List.range n).all fun j => j < h || (List.range h).all fun i => ((bef[j]?).getD 0).testBit i

/-- Operations that draw their order, from number lo on. -/
def mkWin (bef : List Nat) (own : Nat → Bool) (lo : Nat) (os : List AOp) : List DOp × Nat :=
  let n := os.length
  let pu := os.map fun o => o.op.pure
  let la := os.map fun o => o.op.lays own
  let at' := fun (l : List Bool) i => (l[i]?).getD false
  let ap := fun i j => apart bef (lo + i) (lo + j)
  let rank := fun i => ((la.take i).filter id).length
  let wr := os.zipIdx.map fun (o, i) => match o.op with
    | .store .. | .append .. => (List.range n).all fun j => j == i || !ap i j || at' pu j
    | _ => false
  let hid := fun i => if at' pu i || at' wr i then [] else ((List.range n).filter fun j => j != i && ap i j && at' la j).map rank
  let low := fun (o : AOp) i => match o.op with
    | .store .. | .append .. => if at' wr i then none else
      (List.range (rank i + 1)).find? fun lo => (List.range (rank i)).all fun r => r < lo || (hid i).contains r || (List.range n).all fun j => j == i || !ap i j || at' pu j || (hid j).contains r
    | _ => none
  (os.zipIdx.map fun (o, i) => (⟨o, at' pu i, at' wr i, at' la i, rank i, hid i, low o i⟩ : DOp),
   (la.filter id).length)

/-- How many, from number h on, come one by one. -/
def ones (bef : List Nat) (n : Nat) : Nat → Nat → Nat
  | 0, _ => 0
  | k + 1, h => if h < n && bar bef n (h + 1) then ones bef n k (h + 1) + 1 else 0

/-- How many, from number h on, up to the next place that everything behind waits for, with one behind it. -/
def some' (bef : List Nat) (n : Nat) : Nat → Nat → Nat
  | 0, _ => 0
  | k + 1, h => if bar bef n h && bar bef n (h + 1) then 0 else some' bef n k (h + 1) + 1

def okOps (ops : List Oper) (os : List AOp) : Bool :=
  (ops.zip os).all (fun p => p.1.op.operands.toList.all fun x => match x with | .tmp t => p.2.reads.contains t | _ => true) &&
  os.all (fun o => o.op.opds.all fun x => match x with | .con v => v.plain | .tmp _ => true)

def mkSegs (bef : List Nat) (own : Nat → Bool) (n : Nat) : Nat → Nat → List AOp → Option (List Seg)
  | 0, _, os => if os.isEmpty then some [] else none
  | k + 1, lo, os => if os.isEmpty then some [] else
    let m := some' bef n (n - lo) lo
    let p := ones bef n (n - (lo + m)) (lo + m)
    let w := mkWin bef own lo (os.take m)
    if 0 < m + p && m + p ≤ os.length && bar bef n (lo + m) && okDraw bef w.2 w.1 lo && (List.range p).all (fun i => bar bef n (lo + m + (i + 1))) then
      (mkSegs bef own n k (lo + m + p) (os.drop (m + p))).map fun gs => ⟨w.1, w.2, (os.drop m).take p⟩ :: gs
    else none

/-- Operations that draw their order, part by part. -/
def cDraw (P : Program) (N : Nat) (own : Nat → Bool) (ops : Array Oper) : Option (List Seg) := do
  let bef ← cBef ops.toList
  let os ← ops.toList.mapM (cOper P N ops)
  if befOk bef ops.toList && okOps ops.toList os then mkSegs bef own os.length (os.length + 1) 0 os else none

def cCode (P : Program) (N : Nat) (own : Nat → Bool) : Code → Option AC
  | .skip => some .skip
  | .label _ => some .skip
  | .scope c => cCode P N own c
  | .exit id => some (.exit id)
  | .ret => some .ret
  | .seq a b => do some (.seq (← cCode P N own a) (← cCode P N own b))
  | .cond c a b => do some (.cond (← cOpd c) (← cCode P N own a) (← cCode P N own b))
  | .block id c => (cCode P N own c).map (.block id)
  | .loop c => (cCode P N own c).map .loop
  | .region _ ops draw =>
    if draw then (cDraw P N own ops).map .regd else (ops.toList.mapM (cOper P N ops)).map .reg
  | .rangeFunc g ps a b => do
    let g' ← cOpd g
    let a' ← cCode P N own a
    let b' ← cCode P N own b
    if ps.toList.all (· < N) then some (.rangeF g' ps.toList a' b') else none
  | _ => none

def cRes (P : Program) : ResultVar → Option Res
  | .tmp t => some (.tmp t)
  | .cell a ty => do
    let i ← ti P ty
    if i.agg || i.size == 1 then some (.cell a i.agg i.size) else none

def cFunc (P : Program) (own : Nat → Bool) (f : Func) : Option Fn := do
  let c ← f.body
  let b ← cCode P f.ntmps own c
  let rs ← f.results.toList.mapM (cRes P)
  if f.params.size + f.nfree ≤ f.ntmps then some ⟨f.params.size + f.nfree, f.ntmps, rs, b⟩ else none

end Go.Q
end

section
/- Operations, calls among them, run as the evaluator says. -/
set_option linter.unusedSimpArgs false
set_option linter.unusedVariables false
set_option linter.unusedSectionVars false
namespace Go.Q
variable [Link]

def ownB (T : Tab) (f : Nat) : Bool := decide (T.mode f = .own)

/-- A function that a call enters. -/
def Ent (P : Program) (f : Nat) : Prop := ∃ F, P.funcs[f]? = some F ∧ (F.name == "runtime.NumGoroutine") = false ∧ F.body.isNone = false

theorem run_callFunc {P : Program} {f : Nat} (h : Ent P f) (args : Array Value) (w : World) : (callFunc f args).run P w = .ok (.enter f args) w := by
  obtain ⟨F, h1, h2, h3⟩ := h
  have h4 : F.name ≠ "runtime.NumGoroutine" := by simpa using h2
  have h5 : F.body ≠ none := by intro e; rw [e] at h3; simp at h3
  simp [callFunc, Sem.run_bind, h1, h4, h5]

def Reps (w : World) (X : Nat → Prop) (ι : Nat → Nat) (n : Nat) (vs : List V) (us : Array Value) : Prop :=
  us.size = vs.length ∧ ∀ (i : Nat) (e : V) (u : Value), vs[i]? = some e → us[i]? = some u → Rep w X ι n e u

/-- The record at the end of a round. -/
def roundEnd (env : Nat → V) (ps : List Nat) (a b : AC) (ex : Ex) : Ob := .loop env ps a b (if ex = .normal then .ready else .done) (if ex = .normal then none else some ex)

/-- What the machine must do for a call. -/
def sndC (P : Program) (T : Tab) : Calls'
  | .pure f ts, Q => Ent P f ∧ ∀ (w : World) (X0 : Nat → Prop) (us : Array Value), (∀ b, X0 b → b < w.heap.size) → Reps w X0 (fun _ => 0) 0 ts us →
      CallsIn Fence.wide 0 P f us w fun e w' => ∃ u r, e = .returned u ∧ Q (.val r) ∧ Back (T.mode f) w w' X0 r u
  | .raw f args σ n lk, Q => Ent P f ∧ ∀ (w : World) (X : Nat → Prop) (ι : Nat → Nat) (us : Array Value), WF w X ι σ n → lk ≤ n → Reps w X ι n args us →
      CallsIn Fence.wide 0 P f us w fun e w' => ∃ u v σ' n' X' ι', e = .returned u ∧ Q (.mem v σ' n') ∧ WF w' X' ι' σ' n' ∧ Rep w' X' ι' n' v u ∧ Ext w w' X X' ι ι' σ σ' n n' lk
  | .round l env a b σ n lk, Q => ∀ (w : World) (X : Nat → Prop) (ι : Nat → Nat) (N : Nat) (tmps : Array Value) (fn : FuncId) (ca cb : Code), WF w X ι σ n → lk ≤ n → lk ≤ l →
      (∃ env0 ps a0 b0 pend, σ l = some (.loop env0 ps a0 b0 .ready pend)) → N ≤ tmps.size → Link.rel N ca a → Link.rel N cb b → (∀ t, Rep w X ι n (env t) (tmps.getD t undef)) →
      RoundIn Fence.wide 0 P (ι l) fn tmps ca cb w fun e w' => ∃ ex σ' n' X' ι' env2 ps2 a2 b2 pend2, e = .returned (.bool (decide (ex = .normal))) ∧ Q (.fin ex σ' n') ∧
        σ' l = some (.loop env2 ps2 a2 b2 .busy pend2) ∧ WF w' X' ι' (upd σ' l (some (roundEnd env2 ps2 a2 b2 ex))) n' ∧
        Ext w w' X X' ι ι' σ (upd σ' l (some (roundEnd env2 ps2 a2 b2 ex))) n n' lk

theorem sndC_mono (P : Program) (T : Tab) : MonoC (sndC P T) := by
  intro j Q Q' hQ h
  cases j with
  | pure f ts =>
    refine ⟨h.1, fun w X0 us h1 h2 => (h.2 w X0 us h1 h2).mono fun e w' hh => ?_⟩
    obtain ⟨u, r, a, b, c⟩ := hh
    exact ⟨u, r, a, hQ _ b, c⟩
  | raw f args σ n lk =>
    refine ⟨h.1, fun w X ι us h1 h2 h3 => (h.2 w X ι us h1 h2 h3).mono fun e w' hh => ?_⟩
    obtain ⟨u, v, σ', n', X', ι', a, b, c⟩ := hh
    exact ⟨u, v, σ', n', X', ι', a, hQ _ b, c⟩
  | round l env a b σ n lk =>
    intro w X ι N tmps fn ca cb h1 h2 h3 h4 h5 h6 h7 h8
    refine (h w X ι N tmps fn ca cb h1 h2 h3 h4 h5 h6 h7 h8).mono fun e w' hh => ?_
    obtain ⟨ex, σ', n', X', ι', env2, ps2, a2, b2, pend2, p, q, r⟩ := hh
    exact ⟨ex, σ', n', X', ι', env2, ps2, a2, b2, pend2, p, hQ _ q, r⟩

/-- The fence of everything, in a round or not. -/
def Fw (r : Option Nat) : Fence := { Fence.wide with round := r }

theorem callsIn_fw {r : Option Nat} {n : Nat} {P : Program} {f : FuncId} {args : Array Value} {w : World} {R : Ending → World → Prop} (h : CallsIn Fence.wide n P f args w R) :
    CallsIn (Fw r) n P f args w R := h
theorem roundIn_fw {r : Option Nat} {n : Nat} {P : Program} {l : Nat} {f : FuncId} {tmps : Array Value} {assign body : Code} {w : World} {R : Ending → World → Prop}
    (h : RoundIn Fence.wide n P l f tmps assign body w R) : RoundIn (Fw r) n P l f tmps assign body w R := h

/-- An operation, run, comes to R. -/
def OpTo (r : Option Nat) (P : Program) (o : Oper) (a : Act) (w : World) (R : Value → World → Prop) : Prop :=
  ∀ (next : Act → World → Prop) (Qx : Exit → Act → World → Prop), (∀ u w', R u w' → next (a.put o.dst u) w') → o.wpIn (Fw r) 0 P a w next Qx

section
variable {P : Program} {T : Tab} {w : World} {X : Nat → Prop} {ι : Nat → Nat} {σ : Sto} {n lk : Nat} {ρ' : Opd → V}

/-- What an operation must come to. -/
def Res' (w : World) (X : Nat → Prop) (ι : Nat → Nat) (σ : Sto) (n lk : Nat) (Q : V → Sto → Nat → Prop) : Value → World → Prop := fun u w' =>
  ∃ v σ' n' X' ι', Q v σ' n' ∧ Rep w' X' ι' n' v u ∧ WF w' X' ι' σ' n' ∧ Ext w w' X X' ι ι' σ σ' n n' lk

theorem opTo_good {r : Option Nat} {ρ : Operand → Value} {o : Oper} {a : Act} {v : V} {σ' : Sto} {n' : Nat} {Q : V → Sto → Nat → Prop} (hd : ∀ c, o.op ≠ .defer c)
    (hxx : execOp a.eval o = execOp ρ o) (hg : Good w X ι σ n lk ((execOp ρ o).run P w) v σ' n') (hq : Q v σ' n') : OpTo r P o a w (Res' w X ι σ n lk Q) := by
  intro next Qx hn
  obtain ⟨w', X', ι', u, hr, h1, h2, h3⟩ := hg
  refine ⟨fun _ _ => trivial, ?_⟩
  rw [Oper.semAt_eq _ _ _ hd, hxx]
  rcases hr with hr | ⟨hr, rfl⟩ <;> rw [hr]
  · exact hn _ _ ⟨v, σ', n', X', ι', hq, h1, h2, h3⟩
  · exact hn _ _ ⟨v, σ', n', X', ι', hq, h1, h2, h3⟩

theorem callW_sound {r : Option Nat} {fs : Bool} {f : Nat} {args : List V} {us : Array Value} {Q : V → Sto → Nat → Prop} (hw : WF w X ι σ n) (hl : lk ≤ n) (hr : Reps w X ι n args us)
    (h : callW T (sndC P T) fs f args σ n lk Q) : Ent P f ∧ CallsIn (Fw r) 0 P f us w fun e w' => ∃ u, e = .returned u ∧ Res' w X ι σ n lk Q u w' := by
  unfold callW at h
  have pure : ∀ {m : Mode}, T.mode f = m → (∃ ts, args.mapM (frz σ DEEP) = some ts ∧ ∃ r, sndC P T (.pure f ts) (fun o => o = .val r) ∧
      ∃ D : List Nat, D = (if flat r then [] else args.flatMap (rch σ DEEP)) ∧ (fs = false → D = []) ∧ (∀ id ∈ D, lk ≤ id) ∧
        Q (thaw (dropL σ D) n r).1 (thaw (dropL σ D) n r).2.1 (thaw (dropL σ D) n r).2.2) →
      Ent P f ∧ CallsIn (Fw r) 0 P f us w fun e w' => ∃ u, e = .returned u ∧ Res' w X ι σ n lk Q u w' := by
    intro m hm ⟨ts, h1, r', ⟨hent, h2⟩, D, h3, h4, h5, h6⟩
    obtain ⟨b1, b2⟩ := args_frz hw h1 hr.1 hr.2
    refine ⟨hent, callsIn_fw ((h2 w (cutX X ι σ (args.flatMap (rch σ DEEP))) us (fun b hb => hw.xlt b hb.1) ⟨b1, b2⟩).mono fun e w' hh => ?_)⟩
    obtain ⟨u, r2, rfl, he, hb⟩ := hh
    cases he
    obtain ⟨X', ι', c1, c2, c3⟩ := call_back hw hl h3 h5 hb
    exact ⟨u, rfl, _, _, _, X', ι', h6, c2, c1, c3⟩
  split at h
  · obtain ⟨hent, h2⟩ := h.2
    refine ⟨hent, callsIn_fw ((h2 w X ι us hw hl hr).mono fun e w' hh => ?_)⟩
    obtain ⟨u, v, σ', n', X', ι', rfl, q, c1, c2, c3⟩ := hh
    exact ⟨u, rfl, v, σ', n', X', ι', q, c2, c1, c3⟩
  · exact pure rfl h

theorem opTo_enter {r : Option Nat} {o : Oper} {a : Act} {f : Nat} {us : Array Value} {R : Value → World → Prop} (hd : ∀ c, o.op ≠ .defer c)
    (hx : (execOp a.eval o).run P w = .ok (.enter f us) w) (hc : CallsIn (Fw r) 0 P f us w fun e w' => ∃ u, e = .returned u ∧ R u w') : OpTo r P o a w R := by
  intro next Qx hn
  refine ⟨fun _ _ => trivial, ?_⟩
  rw [Oper.semAt_eq _ _ _ hd, hx, Oper.uponIn_enter]
  refine ⟨fun h => by simp [Fw, Fence.wide] at h, hc.mono fun e w' hh => ?_⟩
  obtain ⟨u, rfl, hu⟩ := hh
  exact hn _ _ hu

theorem bind_reps {N : Nat} : ∀ (ps : List Nat) (xs : List V) (us : List Value) (env : Nat → V) (tmps : Array Value), (∀ p ∈ ps, p < N) → N ≤ tmps.size →
    (∀ t, Rep w X ι n (env t) (tmps.getD t undef)) → (∀ (i : Nat) (e : V) (u : Value), xs[i]? = some e → us[i]? = some u → Rep w X ι n e u) → xs.length = us.length →
    N ≤ ((ps.zip us).foldl (fun tmps (p : Nat × Value) => tmps.setIfInBounds p.1 p.2) tmps).size ∧
      ∀ t, Rep w X ι n (bindPs env ps xs t) (((ps.zip us).foldl (fun tmps (p : Nat × Value) => tmps.setIfInBounds p.1 p.2) tmps).getD t undef)
  | [], xs, us, env, tmps, _, h2, h3, _, _ => by simp [bindPs]; exact ⟨h2, by simpa using h3⟩
  | p :: ps, [], us, env, tmps, _, h2, h3, _, h5 => by
    have : us = [] := by cases us; rfl; simp at h5
    subst this; simp [bindPs]; exact ⟨h2, by simpa using h3⟩
  | p :: ps, x :: xs, [], env, tmps, _, _, _, _, h5 => by simp at h5
  | p :: ps, x :: xs, u :: us, env, tmps, h1, h2, h3, h4, h5 => by
    simp only [List.zip_cons_cons, List.foldl_cons, bindPs]
    refine bind_reps ps xs us _ _ (fun q hq => h1 q (List.mem_cons_of_mem _ hq)) (by simpa using h2) (fun t => ?_) (fun i e u' he hu => h4 (i + 1) e u' (by simpa using he) (by simpa using hu)) (by simpa using h5)
    have hp : p < tmps.size := Nat.lt_of_lt_of_le (h1 p (by simp)) h2
    by_cases e : t = p
    · subst e
      simp only [if_true, Array.getD_eq_getD_getElem?, Array.getElem?_setIfInBounds_self_of_lt hp, Option.getD_some]
      exact h4 0 x u rfl rfl
    · simp only [e, if_false, Array.getD_eq_getD_getElem?, Array.getElem?_setIfInBounds_ne (Ne.symm e)]
      simpa [Array.getD_eq_getD_getElem?] using h3 t

/-! ### A method of an interface value -/
section
variable {P : Program} {w : World} {X : Nat → Prop} {ι : Nat → Nat} {σ : Sto} {n : Nat}

theorem invTbl_mem {name : String} {t : Nat} {r : Nat × Nat × Option (Bool × Nat × Nat)} (h : (invTbl P name).find? (fun r => r.1 == t) = some r) : invRow P name t = some (t, r.2.1, r.2.2) := by
  have hm := List.mem_of_find?_eq_some h
  have ht := List.find?_some h
  simp only [beq_iff_eq] at ht
  unfold invTbl at hm
  obtain ⟨t', -, hr⟩ := List.mem_filterMap.1 hm
  have e : r.1 = t' := by
    unfold invRow at hr
    simp only [Option.bind_eq_some_iff, Option.map_eq_some_iff] at hr
    obtain ⟨_, _, _, _, _, _, rfl⟩ := hr
    rfl
  rw [← ht, e, hr, ← e]

theorem run_method {name : String} {t f : Nat} {rc : Option (Bool × Nat × Nat)} (hw : WF w X ι σ n) (hrow : invRow P name t = some (t, f, rc)) {v r : V} {u : Value} (hv : Rep w X ι n v u)
    (hr : recvOf σ v rc = some r) (k : Nat) : ∃ ur, (method (k + 1) t u name).run P w = .ok (f, ur) w ∧ Rep w X ι n r ur := by
  unfold invRow at hrow
  simp only [Option.bind_eq_some_iff, Option.map_eq_some_iff] at hrow
  obtain ⟨i, hi, m, hm, q, hq, he⟩ := hrow
  simp only [Prod.mk.injEq, true_and] at he
  obtain ⟨rfl, rfl⟩ := he
  unfold rcvOf at hq
  split at hq
  · cases hq
  rename_i f p hf
  split at hq
  · rename_i hp
    split at hq
    · rename_i d hd
      split at hq
      · rename_i hpd
        cases hq
        simp only [recvOf, Option.some.injEq] at hr
        subst hr
        refine ⟨u, ?_, hv⟩
        simp only [beq_iff_eq] at hpd
        have hrun : ∀ s, (receiverAt t (.val u) p s).run P w = .ok u w := by
          intro s
          unfold receiverAt
          simp only [Sem.run_bind, run_underlying hd, Result.andThen_ok]
          cases d <;> simp [isPtrD] at hpd <;> subst hpd <;> simp [Place.get]
        unfold method
        simp only [Sem.run_bind, run_typeInfo hi, Result.andThen_ok, hm, hp, follow, Sem.run_pure, hf, hrun]
      · cases hq
    · cases hq
  · rename_i s hp
    split at hq
    rotate_left
    · cases hq
    rename_i hsp
    simp only [Bool.and_eq_true, Bool.not_eq_true'] at hsp
    obtain ⟨hs, rfl⟩ := hsp
    split at hq
    rotate_left
    · cases hq
    rename_i fs hfs
    split at hq
    rotate_left
    · cases hq
    rename_i g hg
    split at hq
    rotate_left
    · cases hq
    rename_i j hj
    split at hq
    rotate_left
    · cases hq
    rename_i hc
    simp only [Bool.and_eq_true, Bool.not_eq_true', Bool.or_eq_true, beq_iff_eq, decide_eq_true_eq] at hc
    obtain ⟨⟨hnp, h1⟩, h0⟩ := hc
    cases hq
    obtain ⟨hju, -⟩ := ti_spec hj
    have key : ∀ (b o : Nat) (uo : Nat → Value) (cs : List V), u = .pointer (some ⟨b, o, none⟩) → (∀ (k : Nat) (c : V), cs[k]? = some c → w.cell? ⟨b, o + k, none⟩ = some (uo k) ∧ Rep w X ι n c (uo k)) →
        loadC j.agg j.size (cs.drop g.offset) = some r → ∃ ur, (method (k + 1) t u name).run P w = .ok (f, ur) w ∧ Rep w X ι n r ur := by
      intro b o uo cs hu hcs hl
      obtain ⟨z, hz, hrz⟩ := load_sound (P := P) (w := w) (X := X) (ι := ι) (n := n) hj h1 (drop_at hcs) hl
      refine ⟨z, ?_, hrz⟩
      subst hu
      have hrun : (receiverAt g.type (.var ⟨b, o + g.offset, none⟩) false none).run P w = .ok z w := by
        unfold receiverAt
        simp only [Sem.run_bind, run_underlying hju, Result.andThen_ok]
        cases hjd : j.d <;> rw [hjd] at hnp <;> simp [isPtrD] at hnp <;> simp [Place.get, hz]
      have hfol : (follow [s] t (.val (.pointer (some ⟨b, o, none⟩)))).run P w = .ok (g.type, .var ⟨b, o + g.offset, none⟩) w := by
        simp [follow, Sem.run_bind, run_underlying hfs, hg, hs, Place.get, asAddr, fieldPlace, run_sizeOf hj, h0, add_none, Result.andThen_ok]
      have hpe : m.path.isEmpty = false := by
        have : m.path.toList.length = 1 := by rw [hp]; rfl
        simp [Array.isEmpty]; intro h; rw [h] at this; simp at this
      unfold method
      simp only [Sem.run_bind, run_typeInfo hi, Result.andThen_ok, hm, hp, hfol, hf, hpe, Bool.false_eq_true, if_false, hrun, Sem.run_pure]
    simp only [recvOf] at hr
    split at hr
    · simp only [Option.bind_eq_some_iff] at hr
      obtain ⟨e, he, hl⟩ := hr
      obtain ⟨-, uo, hu⟩ := rep_at hw he
      generalize hy : u = y at hv
      cases hv
      subst hy
      rename_i id s' i' j' _ _
      rw [← List.drop_drop] at hl
      exact key _ _ _ _ rfl (drop_at hu) hl
    · generalize hy : u = y at hv
      cases hv with
      | box _ b o uo hX hb h1' hm' hr' =>
        rw [← hy]
        exact key b o uo _ hy (fun k c hc => ⟨hm' k c hc, (hr' k c hc).up⟩) hr
    · cases hr
  · cases hq

/-- Operations that call a method of an interface value. -/
theorem inv_shape {o : Oper} {x : Opd} {tbl : List (Nat × Nat × Option (Bool × Nat × Nat))} {es : List Opd} (hc : cOp P o = some (.inv x tbl es)) :
    ∃ c y name, o.op = .call c ∧ c.callee = .invoke y name ∧ cOpd y = some x ∧ tbl = invTbl P name ∧ cOpds c.args.toList = some es := by
  obtain ⟨dst, op, ty, pos, after, guard⟩ := o
  cases op <;> simp only [cOp, reduceCtorEq] at hc
  case call c =>
    refine ⟨c, ?_⟩
    split at hc
    case h_7 y name hcal =>
      simp only [Option.bind_eq_bind, Option.bind_eq_some_iff, Option.some.injEq, AI.inv.injEq] at hc
      obtain ⟨g', hg, es', hes, rfl, rfl, rfl⟩ := hc
      exact ⟨y, name, rfl, hcal, hg, rfl, hes⟩
    all_goals
      exfalso
      repeat' (first | (simp only [Option.bind_eq_bind, Option.bind_eq_some_iff, Option.map_eq_some_iff, Option.some.injEq, reduceCtorEq, and_false, exists_false] at hc; done) |
        (simp only [Option.bind_eq_bind, Option.bind_eq_some_iff, Option.map_eq_some_iff, Option.some.injEq, reduceCtorEq, and_false, exists_false] at hc) | (obtain ⟨_, _, hc⟩ := hc) | split at hc | cases hc)
  all_goals
    exfalso
    repeat' (first | (simp only [Option.bind_eq_bind, Option.bind_eq_some_iff, Option.map_eq_some_iff, Option.some.injEq, reduceCtorEq, and_false, exists_false] at hc; done) |
      (simp only [Option.bind_eq_bind, Option.bind_eq_some_iff, Option.map_eq_some_iff, Option.some.injEq, reduceCtorEq, and_false, exists_false] at hc) | (obtain ⟨_, _, hc⟩ := hc) | split at hc | cases hc)

end

/-- Operations that are calls of a function's value. -/
theorem call_shape {P : Program} {o : Oper} {ai : AI} (hc : cOp P o = some ai) {g : Opd} {es : List Opd} (hai : ai = .callv g es ∨ ∃ f, ai = .call f es) :
    ∃ c, o.op = .call c ∧ ∃ x, c.callee = .value x ∧ ∃ es', cOpds c.args.toList = some es' ∧
        ((∃ f, x = .func f ∧ ai = .call f es') ∨ (∃ g', cOpd x = some g' ∧ ai = .callv g' es')) := by
  obtain ⟨dst, op, ty, pos, after, guard⟩ := o
  cases op <;> simp only [cOp, reduceCtorEq] at hc
  case call c =>
    refine ⟨c, rfl, ?_⟩
    split at hc
    · exfalso; rcases hai with rfl | ⟨f, rfl⟩ <;> (split at hc <;> (try split at hc) <;> simp at hc)
    · exfalso; rcases hai with rfl | ⟨f, rfl⟩ <;> simp at hc
    · exfalso; rcases hai with rfl | ⟨f, rfl⟩ <;> simp at hc
    · exfalso
      split at hc
      · simp only [Option.bind_eq_bind, Option.bind_eq_some_iff] at hc
        obtain ⟨d, _, hc⟩ := hc
        split at hc
        · simp only [Option.bind_eq_some_iff] at hc
          obtain ⟨d, _, hc⟩ := hc
          split at hc
          · simp only [Option.bind_eq_some_iff] at hc
            obtain ⟨j, _, hc⟩ := hc
            split at hc
            · simp only [Option.bind_eq_some_iff, Option.some.injEq] at hc
              obtain ⟨_, _, _, _, rfl⟩ := hc
              rcases hai with h | ⟨f, h⟩ <;> cases h
            · cases hc
          · cases hc
        · cases hc
      · cases hc
    · rename_i f hcal
      simp only [Option.map_eq_some_iff] at hc
      obtain ⟨es', hes, rfl⟩ := hc
      exact ⟨_, hcal, es', hes, .inl ⟨f, rfl, rfl⟩⟩
    · rename_i g0 hcal _
      simp only [Option.bind_eq_bind, Option.bind_eq_some_iff, Option.some.injEq] at hc
      obtain ⟨g', hg, es', hes, rfl⟩ := hc
      exact ⟨_, by assumption, es', hes, .inr ⟨g', hg, rfl⟩⟩
    · exfalso
      simp only [Option.bind_eq_bind, Option.bind_eq_some_iff, Option.some.injEq] at hc
      obtain ⟨_, _, _, _, rfl⟩ := hc
      rcases hai with h | ⟨f, h⟩ <;> cases h
    · cases hc
  all_goals
    exfalso
    rcases hai with rfl | ⟨f, rfl⟩ <;>
    repeat' (first | (simp only [Option.bind_eq_bind, Option.bind_eq_some_iff, Option.map_eq_some_iff, Option.some.injEq, reduceCtorEq, and_false, exists_false] at hc; done) |
      (simp only [Option.bind_eq_bind, Option.bind_eq_some_iff, Option.map_eq_some_iff, Option.some.injEq, reduceCtorEq, and_false, exists_false] at hc) | (obtain ⟨_, _, hc⟩ := hc) | split at hc | cases hc)

theorem opW_sound' {r : Option Nat} {fs : Bool} {ρ : Operand → Value} {o : Oper} {ai : AI} {a : Act} {Q : V → Sto → Nat → Prop} (hw : WF w X ι σ n) (hl : lk ≤ n)
    (hρ : ∀ (x : Operand) (x' : Opd), cOpd x = some x' → Rep w X ι n (ρ' x') (ρ x)) (hcon : ∀ v, ρ' (.con v) = v) (hρc : ∀ v, ρ (.const v) = v)
    (hρf : ∀ f, ρ (.func f) = .func (.func f) #[] #[]) (hxx : execOp a.eval o = execOp ρ o) (hc : cOp P o = some ai)
    (h : opW T (sndC P T) fs ρ' σ n lk ai Q) : OpTo r P o a w (Res' w X ι σ n lk Q) := by
  have hd : ∀ c, o.op ≠ .defer c := fun c e => by
    obtain ⟨dst, op, ty, pos, after, guard⟩ := o
    simp only at e; subst e
    simp [cOp] at hc
  by_cases hinv : ∃ x tbl es, ai = .inv x tbl es
  · obtain ⟨x, tbl, es, rfl⟩ := hinv
    obtain ⟨c, y, name, hop, hcal, hy, rfl, hes⟩ := inv_shape hc
    obtain ⟨e1, e2⟩ := cOpds_spec hes hρ
    simp only [opW] at h
    obtain ⟨-, h⟩ := h
    split at h
    rotate_left
    · exact h.elim
    rename_i f rv hinv
    have hyr := hρ _ _ hy
    unfold invOf at hinv
    split at hinv
    rotate_left
    · cases hinv
    rename_i t v hval
    rw [hval] at hyr
    simp only [Option.bind_eq_some_iff, Option.map_eq_some_iff, Prod.mk.injEq] at hinv
    obtain ⟨row, hrow, rv', hrv, rfl, rfl⟩ := hinv
    generalize hu : ρ y = u at hyr
    cases hyr with
    | iface _ _ uv hv =>
      have hmem := invTbl_mem hrow
      obtain ⟨ur, hrun, hrep⟩ := run_method hw hmem hv hrv (P.types.size + Made.depth - 1)
      have hdep : P.types.size + Made.depth - 1 + 1 = P.types.size + Made.depth := by unfold Made.depth; omega
      rw [hdep] at hrun
      have hreps : Reps w X ι n (rv' :: es.map ρ') (#[ur] ++ c.args.map ρ) := by
        refine ⟨by simp at e1 ⊢; omega, fun i e u he hu => ?_⟩
        cases i with
        | zero =>
          rw [Array.getElem?_append_left (by simp)] at hu
          simp at he hu; subst he; subst hu; exact hrep
        | succ i =>
          rw [Array.getElem?_append_right (by simp)] at hu
          simp only [List.size_toArray, List.length_cons, List.length_nil, Nat.zero_add, Nat.add_sub_cancel] at hu
          exact e2 i e u (by simpa using he) (by simpa using hu)
      obtain ⟨hent, hcall'⟩ := callW_sound (r := r) hw hl hreps h
      refine opTo_enter hd ?_ hcall'
      have hex : execOp a.eval o = (do let d ← resolve ρ c o.type; invoke d.target d.args) := by
        obtain ⟨dst, op, ty, pos, after, guard⟩ := o
        rw [hxx]
        simp only at hop; subst hop; rfl
      have hargs : (#[Value.iface t uv] ++ c.args.map ρ).extract 1 (#[Value.iface t uv] ++ c.args.map ρ).size = c.args.map ρ := by
        apply Array.ext'
        simp
        rw [List.take_of_length_le]; simp
      rw [hex]
      have := run_callFunc hent (#[ur] ++ c.args.map ρ) w
      simp only [Sem.run_bind, resolve, hcal, hu, Sem.run_pure, Result.andThen_ok, invoke, callMethod]
      simp only [Array.getElem?_append_left (show 0 < #[Value.iface t uv].size by simp), List.getElem?_toArray, List.getElem?_cons_zero, hargs, Sem.run_bind]
      have hp : (program : Sem Program).run P w = .ok P w := rfl
      rw [hp]
      simp only [Result.andThen_ok, hrun]
      exact this
  by_cases hcall : ∃ g es, ai = .callv g es ∨ ∃ f, ai = .call f es
  · obtain ⟨g, es, hai⟩ := hcall
    have hop := call_shape hc hai
    obtain ⟨c, hop, x, hcal, es', hes, hx⟩ := hop
    obtain ⟨e1, e2⟩ := cOpds_spec hes hρ
    have hreps : Reps w X ι n (es'.map ρ') (c.args.map ρ) := ⟨by simpa using e1.symm, fun i e u he hu => e2 i e u he (by simpa using hu)⟩
    have hex : execOp a.eval o = (do let d ← resolve ρ c o.type; invoke d.target d.args) := by
      obtain ⟨dst, op, ty, pos, after, guard⟩ := o
      rw [hxx]
      simp only at hop; subst hop; rfl
    have hres : ∀ (fn : Go.Fn) (first cap : Array Value), ρ x = .func fn first cap →
        (execOp a.eval o).run P w = (invoke (.fn fn cap) (first ++ c.args.map ρ)).run P w := fun fn first cap he => by
      rw [hex]
      simp [Sem.run_bind, resolve, hcal, he, Deferred.ofValue, Result.andThen]
    rcases hx with ⟨f, rfl, rfl⟩ | ⟨g', hg, rfl⟩
    · simp only [opW] at h
      obtain ⟨hent, hcall'⟩ := callW_sound (r := r) hw hl hreps h
      refine opTo_enter hd ?_ hcall'
      rw [hres (.func f) #[] #[] (hρf f)]
      simpa [invoke] using run_callFunc hent _ w
    · simp only [opW] at h
      have hgr := hρ _ _ hg
      split at h
      · rename_i f caps hval
        rw [hval] at hgr
        generalize hu : ρ x = u at hgr
        cases hgr with
        | fn _ _ cus hl' hr' =>
          have hreps' : Reps w X ι n (es'.map ρ' ++ caps) (c.args.map ρ ++ cus) := by
            refine ⟨by rw [Array.size_append, List.length_append, hreps.1, hl'], fun i e u he hu => ?_⟩
            rw [List.getElem?_append] at he
            rw [Array.getElem?_append] at hu
            rw [hreps.1] at hu
            split at he <;> rename_i hlt
            · rw [if_pos hlt] at hu; exact hreps.2 i e u he hu
            · rw [if_neg hlt] at hu; exact hr' _ e u he hu
          obtain ⟨hent, hcall'⟩ := callW_sound (r := r) hw hl hreps' h
          refine opTo_enter hd ?_ hcall'
          rw [hres (.func f) #[] cus hu]
          simpa [invoke] using run_callFunc hent _ w
      · rename_i f bs hval
        rw [hval] at hgr
        generalize hu : ρ x = u at hgr
        cases hgr with
        | bnd _ _ bus hl' hr' =>
          have hreps' : Reps w X ι n (bs ++ es'.map ρ') (bus ++ c.args.map ρ) := by
            refine ⟨by rw [Array.size_append, List.length_append, hreps.1, hl'], fun i e u he hu => ?_⟩
            rw [List.getElem?_append] at he
            rw [Array.getElem?_append] at hu
            rw [← hl'] at hu
            split at he <;> rename_i hlt
            · rw [if_pos hlt] at hu; exact hr' i e u he hu
            · rw [if_neg hlt] at hu; exact hreps.2 _ e u he hu
          obtain ⟨hent, hcall'⟩ := callW_sound (r := r) hw hl hreps' h
          refine opTo_enter hd ?_ hcall'
          rw [hres (.func f) bus #[] hu]
          simpa [invoke] using run_callFunc hent _ w
      · rename_i l hval
        rw [hval] at hgr
        generalize hu : ρ x = u at hgr
        cases hgr with
        | yld _ hid =>
          obtain ⟨_, h⟩ := h
          unfold yieldW at h
          split at h
          · rename_i env ps assign body pend hrow
            obtain ⟨hlen, hlk, h⟩ := h
            obtain ⟨rec, hrec, hrep⟩ := hw.loop l _ _ _ _ _ _ hrow
            obtain ⟨N, hN, hps, hla, hlb⟩ := hrep.code
            have hsize : (c.args.map ρ).size = rec.params.size := by
              rw [hreps.1, hlen, ← hrep.hps]; simp
            have hb := bind_reps (N := N) ps (es'.map ρ') (c.args.map ρ).toList env rec.tmps hps hN hrep.rep (fun i e u he hu => hreps.2 i e u he (by simpa using hu)) (by rw [hlen, ← hrep.hps]; simp [← hsize])
            have hfold : (rec.params.zip (c.args.map ρ)).foldl (fun tmps (p : Nat × Value) => tmps.setIfInBounds p.1 p.2) rec.tmps =
                (ps.zip (c.args.map ρ).toList).foldl (fun tmps (p : Nat × Value) => tmps.setIfInBounds p.1 p.2) rec.tmps := by
              rw [← Array.foldl_toList, Array.toList_zip, hrep.hps]
            intro next Qx hn
            refine ⟨fun _ _ => trivial, ?_⟩
            rw [Oper.semAt_eq _ _ _ hd, hres (.yield (ι l)) #[] #[] hu]
            have hy := run_yield (P := P) (args := c.args.map ρ) hrec hsize
            simp only [invoke, Array.empty_append]
            rw [hy, Oper.uponIn_round]
            refine ⟨fun h => by simp [Fw, Fence.wide] at h, ?_⟩
            have hround := h w X ι N _ rec.fn rec.assign rec.body hw hl hlk ⟨_, _, _, _, _, hrow⟩ hb.1 hla hlb hb.2
            rw [← hfold] at hround
            refine roundIn_fw (r := r) (hround.mono (fun e w' hh => ?_))
            obtain ⟨ex, σ', n', X', ι', env2, ps2, a2, b2, pend2, rfl, ⟨e3, p3, a3, b3, d3, hq1, hq2⟩, hσ, hwf, hext⟩ := hh
            rw [hσ] at hq1
            simp only [Option.some.injEq, Ob.loop.injEq] at hq1
            obtain ⟨rfl, rfl, rfl, rfl, -, rfl⟩ := hq1
            exact hn _ _ ⟨_, _, _, X', ι', hq2, .bool _, hwf, hext⟩
          · exact h.elim
      · exact h.elim
  · have hev : ∃ v σ' n', ev ρ' σ n lk ai = some (v, σ', n') ∧ Q v σ' n' := by
      unfold opW at h
      split at h
      · exact absurd ⟨.con .undef, _, .inr ⟨_, rfl⟩⟩ hcall
      · exact absurd ⟨_, _, .inl rfl⟩ hcall
      · exact absurd ⟨_, _, _, rfl⟩ hinv
      · split at h
        · rename_i v σ' n' he; exact ⟨v, σ', n', he, h⟩
        · exact h.elim
    obtain ⟨v, σ', n', he, hq⟩ := hev
    exact opTo_good hd hxx (op_sound hw hl hρ hcon hρc hc he) hq

theorem opW_sound {r : Option Nat} {fs : Bool} {o : Oper} {ai : AI} {a : Act} {Q : V → Sto → Nat → Prop} (hw : WF w X ι σ n) (hl : lk ≤ n)
    (hρ : ∀ (x : Operand) (x' : Opd), cOpd x = some x' → Rep w X ι n (ρ' x') (a.eval x)) (hcon : ∀ v, ρ' (.con v) = v) (hc : cOp P o = some ai)
    (h : opW T (sndC P T) fs ρ' σ n lk ai Q) : OpTo r P o a w (Res' w X ι σ n lk Q) :=
  opW_sound' hw hl hρ hcon (fun _ => rfl) (fun _ => rfl) rfl hc h

end
end Go.Q
end

section
/- Rows of operations, run as the evaluator says. -/
set_option linter.unusedSimpArgs false
set_option linter.unusedVariables false
set_option linter.unusedSectionVars false
namespace Go.Q
variable [Link]

/-- Where an activation began. -/
structure Base where
  w : World
  X : Nat → Prop
  ι : Nat → Nat
  σ : Sto
  n : Nat
  lk : Nat

/-- The marks of an activation's loops over functions. -/
def markOf (r : Nat) : Deferred := { target := .collected r, args := #[] }

def Marks (lo : Nat) (X : Nat → Prop) (w : World) (ds : List Deferred) : Prop :=
  ∃ rs : List Nat, ds = rs.map markOf ∧ rs.Nodup ∧ ∀ r ∈ rs, lo ≤ r ∧ w.heap[r]? = some (.deferred (some [])) ∧ ¬ X r

/-- The evaluator's state stands in an activation and in memory. -/
structure At (B : Base) (r : Option Nat) (N : Nat) (s : St) (a : Act) (w : World) (X : Nat → Prop) (ι : Nat → Nat) : Prop where
  wf : WF w X ι s.σ s.n
  hlk : s.lk = B.lk
  le : B.lk ≤ s.n
  size : N ≤ a.tmps.size
  rep : ∀ t, Rep w X ι s.n (s.env t) (a.tmps.getD t undef)
  ext : Ext B.w w B.X X B.ι ι B.σ s.σ B.n s.n B.lk
  marks : Marks B.w.heap.size X w a.defers
  rnd : ∀ l, r = some l → ∃ rec, w.heap[l]? = some (.loop rec)

section
variable {P : Program} {T : Tab} {B : Base} {r : Option Nat} {N : Nat} {s : St} {a : Act} {w : World} {X : Nat → Prop} {ι : Nat → Nat}

theorem At.lkn (h : At B r N s a w X ι) : s.lk ≤ s.n := by rw [h.hlk]; exact h.le

theorem At.eval (h : At B r N s a w X ι) {x : Operand} {x' : Opd} (hc : cOpd x = some x') : Rep w X ι s.n (s.val x') (a.eval x) := by
  unfold cOpd at hc
  split at hc
  · simp only [Option.some.injEq] at hc; subst hc; exact h.rep _
  · simp only [Option.map_eq_some_iff] at hc
    obtain ⟨v, hv, rfl⟩ := hc
    exact ofValA_rep hv
  · simp only [Option.some.injEq] at hc; subst hc
    exact .fn _ [] #[] rfl (fun i e u he => by simp at he)
  · cases hc

theorem Marks.ext {lo : Nat} {w' : World} {X' : Nat → Prop} {ι' : Nat → Nat} {σ σ' : Sto} {n n' lk : Nat} {ds : List Deferred} (hw : WF w X ι σ n) (h : Marks lo X w ds)
    (e : Ext w w' X X' ι ι' σ σ' n n' lk) : Marks lo X' w' ds := by
  obtain ⟨rs, h1, h2, h3⟩ := h
  refine ⟨rs, h1, h2, fun r hr => ?_⟩
  obtain ⟨a1, a2, a3⟩ := h3 r hr
  have hlt := (Array.getElem?_eq_some_iff.1 a2).1
  exact ⟨a1, by rw [e.heap r hlt (fun ho => a3 (ho.sub hw))]; exact a2, fun hx => a3 (e.xnew r hlt hx)⟩

/-- An operation's outcome is put in place. -/
theorem At.put (h : At B r N s a w X ι) {v : V} {u : Value} {σ' : Sto} {n' : Nat} {w' : World} {X' : Nat → Prop} {ι' : Nat → Nat} {dst : Option Nat} (hd : fits N dst = true)
    (hr : Rep w' X' ι' n' v u) (hw : WF w' X' ι' σ' n') (he : Ext w w' X X' ι ι' s.σ σ' s.n n' s.lk) :
    At B r N (({ s with σ := σ', n := n' } : St).put dst v) (a.put dst u) w' X' ι' := by
  have hrep : ∀ t, Rep w' X' ι' n' (s.env t) (a.tmps.getD t undef) := fun t => (h.rep t).ext h.wf he
  have he' : Ext B.w w' B.X X' B.ι ι' B.σ σ' B.n n' B.lk := h.ext.trans (by rw [← h.hlk]; exact he)
  have hle : B.lk ≤ n' := Nat.le_trans h.le he.hn
  have hrn : ∀ l, r = some l → ∃ rec, w'.heap[l]? = some (.loop rec) := fun l hl => by
    obtain ⟨rec, hrec⟩ := h.rnd l hl
    exact he.loops _ _ hrec
  cases dst with
  | none => exact ⟨hw, h.hlk, hle, h.size, hrep, he', h.marks.ext h.wf he, hrn⟩
  | some d =>
    have hdN : d < N := by simpa [fits] using hd
    refine ⟨hw, h.hlk, hle, by simpa [Act.put] using h.size, fun t => ?_, he', h.marks.ext h.wf he, hrn⟩
    have hlt : d < a.tmps.size := Nat.lt_of_lt_of_le hdN h.size
    by_cases e : t = d
    · subst e
      simp only [St.put, Act.put, if_true, Array.getD_eq_getD_getElem?, Array.getElem?_setIfInBounds_self_of_lt hlt, Option.getD_some]
      exact hr
    · simp only [St.put, Act.put, e, if_false, Array.getD_eq_getD_getElem?, Array.getElem?_setIfInBounds_ne (Ne.symm e)]
      simpa [Array.getD_eq_getD_getElem?] using hrep t

theorem rep_bool {n : Nat} {v : V} {b : Bool} (h : Rep w X ι n v (.bool b)) : v = .bool b := by cases h; rfl
theorem rep_bool' {n : Nat} {u : Value} {b : Bool} (h : Rep w X ι n (.bool b) u) : u = .bool b := by cases h; rfl

theorem wants_iff' (h : ∀ t, ∃ m, Rep w X ι m (s.env t) (a.tmps.getD t undef)) {ops : Array Oper} {o : Oper} {ao : AOp} (hc : cOper P N ops o = some ao) :
    wants ao.guard s.env = Region.wanted o (yielded ops a.tmps) := by
  unfold cOper at hc
  split at hc
  · cases hc
  · split at hc
    · split at hc
      · rename_i hg
        simp only [Option.some.injEq] at hc; subst hc
        simp [wants, Region.wanted, hg]
      · rename_i j want hg
        split at hc
        · rename_i t ht
          simp only [Option.some.injEq] at hc; subst hc
          simp only [wants, Region.wanted, hg, yielded, ht, Option.bind_some]
          obtain ⟨m, hr⟩ := h t
          cases hx : a.tmps[t]? with
          | none =>
            rw [show a.tmps.getD t undef = undef by simp [Array.getD_eq_getD_getElem?, hx]] at hr
            generalize s.env t = y at hr
            cases hr <;> simp
          | some u =>
            rw [show a.tmps.getD t undef = u by simp [Array.getD_eq_getD_getElem?, hx]] at hr
            generalize s.env t = y at hr
            cases hr <;> simp
        · cases hc
    · cases hc

theorem wants_iff (h : At B r N s a w X ι) {ops : Array Oper} {o : Oper} {ao : AOp} (hc : cOper P N ops o = some ao) :
    wants ao.guard s.env = Region.wanted o (yielded ops a.tmps) := wants_iff' (fun t => ⟨_, h.rep t⟩) hc

theorem cOper_spec {ops : Array Oper} {o : Oper} {ao : AOp} (hc : cOper P N ops o = some ao) : cOp P o = some ao.op ∧ ao.dst = o.dst ∧ fits N o.dst = true := by
  unfold cOper at hc
  split at hc
  · cases hc
  · rename_i ai hai
    split at hc
    · rename_i hf
      split at hc
      · simp only [Option.some.injEq] at hc; subst hc; exact ⟨hai, rfl, hf⟩
      · split at hc
        · simp only [Option.some.injEq] at hc; subst hc; exact ⟨hai, rfl, hf⟩
        · cases hc
    · cases hc

/-- An operation that is not wanted. -/
theorem At.skip (h : At B r N s a w X ι) {dst : Option Nat} (hd : fits N dst = true) : At B r N (s.put dst .undef) (a.put dst undef) w X ι := by
  have := h.put (v := .undef) (u := undef) (σ' := s.σ) (n' := s.n) (dst := dst) hd .undef h.wf (Ext.refl h.wf.xlt)
  exact this

theorem wpR_sound {ops : Array Oper} {Qm : Exit → Act → World → Prop} {Q : St → Prop} (hQ : ∀ s a w X ι, At B r N s a w X ι → Q s → Qm .normal a w) :
    ∀ (l : List Oper) (al : List AOp), l.mapM (cOper P N ops) = some al → ∀ (s : St) (a : Act) (w : World) (X : Nat → Prop) (ι : Nat → Nat), At B r N s a w X ι →
      wpR T (sndC P T) al s Q → wpListIn (Fw r) 0 P ops Qm l a w
  | [], al, hl, s, a, w, X, ι, h, hw => by
    simp at hl; subst hl
    exact hQ s a w X ι h hw
  | o :: l, al, hl, s, a, w, X, ι, h, hw => by
    simp only [List.mapM_cons, Option.pure_def, Option.bind_eq_bind, Option.bind_eq_some_iff, Option.some.injEq] at hl
    obtain ⟨ao, hao, al', hal, rfl⟩ := hl
    obtain ⟨h1, h2, h3⟩ := cOper_spec hao
    simp only [wpR] at hw
    rw [wants_iff h hao] at hw
    unfold wpListIn
    split at hw <;> rename_i hwant
    · rw [if_pos hwant]
      refine opW_sound (r := r) h.wf h.lkn (fun x x' hx => h.eval hx) (fun _ => rfl) h1 hw _ _ ?_
      intro u w' hres
      obtain ⟨v, σ', n', X', ι', hq, hr, hwf, he⟩ := hres
      rw [h2] at hq
      exact wpR_sound hQ l al' hal _ _ _ _ _ (h.put h3 hr hwf he) hq
    · rw [if_neg hwant]
      rw [h2] at hw
      exact ⟨fun _ _ => trivial, wpR_sound hQ l al' hal _ _ _ _ _ (h.skip h3) hw⟩

end
end Go.Q
end

section
/- Code, run as the evaluator says. -/
set_option linter.unusedSimpArgs false
set_option linter.unusedVariables false
set_option linter.unusedSectionVars false
namespace Go.Q

@[reducible] def lnk (P : Program) (T : Tab) : Link := ⟨fun N c a => cCode P N (ownB T) c = some a⟩

section
variable [Link] {P : Program} {T : Tab} {B : Base} {r : Option Nat} {N : Nat}

/-- What holds where code is left. -/
def PostOf (B : Base) (r : Option Nat) (N : Nat) (Q : Ex → St → Prop) : Exit → Act → World → Prop
  | .normal, a, w => ∃ s X ι, At B r N s a w X ι ∧ Q .normal s
  | .exit id, a, w => ∃ s X ι, At B r N s a w X ι ∧ Q (.exit id) s
  | .ret, a, w => ∃ s X ι, At B r N s a w X ι ∧ Q .ret s
  | _, _, _ => False

/-- A region that draws its order, run as the evaluator says. -/
def DrawOk (P : Program) (T : Tab) : Prop := ∀ (B : Base) (r : Option Nat) (N : Nat) (id : Nat) (ops : Array Oper) (segs : List Seg) (s : St) (a : Act) (w : World)
  (X : Nat → Prop) (ι : Nat → Nat) (Q : Ex → St → Prop), cDraw P N (ownB T) ops = some segs → At B r N s a w X ι →
    wpS T (sndC P T) segs s (Q .normal) → (Code.region id ops true).wpIn (Fw r) 0 P (PostOf B r N Q) a w

theorem PostOf.mono {Q Q' : Ex → St → Prop} (h : ∀ e s, Q e s → Q' e s) {e : Exit} {a : Act} {w : World} (hh : PostOf B r N Q e a w) : PostOf B r N Q' e a w := by
  cases e <;> simp only [PostOf] at * <;> first | exact hh | (obtain ⟨s, X, ι, h1, h2⟩ := hh; exact ⟨s, X, ι, h1, h _ _ h2⟩)

/-- Where a loop's body begins again. -/
def LoopAt (F : Fence) (P : Program) (c : Code) (Q : Exit → Act → World → Prop) (a : Act) (w : World) : Prop :=
  ∀ (b : Frame) (k : List Item) (cs : List Frame), b.roundOf = F.round → F.fn b.fn → F.room (cs.length + 1 + 0) →
    ∃ e a' w', Q e a' w' ∧ ArrivesIn (Machine.fenced P F) P (lone (b.atR a (.code c :: .inLoop c :: k)) cs w) b k cs e a' w'

theorem LoopAt.step {F : Fence} {c : Code} {Q : Exit → Act → World → Prop} {a : Act} {w : World} (h : c.wpIn F 0 P (Exit.then (LoopAt F P c Q) Q) a w) : LoopAt F P c Q a w := by
  intro b k cs hro hb hr
  obtain ⟨e, a₁, w₁, hq, harr⟩ := h b (.inLoop c :: k) cs hro hb hr
  cases e with
  | normal =>
    obtain ⟨e₂, a₂, w₂, hq₂, harr₂⟩ := hq b k cs hro hb hr
    exact ⟨e₂, a₂, w₂, hq₂, .of_steps (StepsIn.trans harr (.one (fenced_calm hb hr rfl) stepR_inLoop)) harr₂⟩
  | exit id => exact ⟨_, a₁, w₁, hq, .pass (x := .inLoop c) rfl (fun _ _ => .inl (by simp)) harr⟩
  | goto l => exact ⟨_, a₁, w₁, hq, .pass (x := .inLoop c) rfl (fun _ _ => .inl (by simp)) harr⟩
  | ret => exact ⟨_, a₁, w₁, hq, .pass (x := .inLoop c) rfl (fun _ _ => .inl (by simp)) harr⟩
  | panic ch => exact ⟨_, a₁, w₁, hq, .pass (x := .inLoop c) rfl (fun _ _ => .inl (by simp)) harr⟩
  | outgrown => exact ⟨_, a₁, w₁, hq, .pass (x := .inLoop c) rfl (fun _ _ => .inl (by simp)) harr⟩

theorem LoopAt.loop {F : Fence} {c : Code} {Q : Exit → Act → World → Prop} {a : Act} {w : World} (h : LoopAt F P c Q a w) : (Code.loop c).wpIn F 0 P Q a w := by
  intro b k cs hro hb hr
  obtain ⟨e, a', w', hq, harr⟩ := h b k cs hro hb hr
  exact ⟨e, a', w', hq, .of_steps (.one (fenced_calm hb hr rfl) stepR_loop) harr⟩

theorem stepR_scope {b : Frame} {a : Act} {k : List Item} {cs : List Frame} {w : World} {c : Code} :
    step P (lone (b.atR a (.code (.scope c) :: k)) cs w) = .next (lone (b.atR a (.code c :: .inScope c :: k)) cs w) :=
  step_lone_go (by simp [stepG, stepG.exec, Frame.atR])
theorem stepR_inScope {b : Frame} {a : Act} {k : List Item} {cs : List Frame} {w : World} {c : Code} :
    step P (lone (b.atR a (.inScope c :: k)) cs w) = .next (lone (b.atR a k) cs w) :=
  step_lone_go (by simp [stepG, stepG.exec, Frame.atR])

theorem wpIn_scope {F : Fence} {c : Code} {Q : Exit → Act → World → Prop} {a : Act} {w : World} (hg : ∀ l a w, ¬ Q (.goto l) a w) (h : c.wpIn F 0 P Q a w) : (Code.scope c).wpIn F 0 P Q a w := by
  intro b k cs hro hb hr
  have h0 : (lone (b.atR a (.code (.scope c) :: k)) cs w).fenced P F := fenced_calm hb hr rfl
  have s0 : step P (lone (b.atR a (.code (.scope c) :: k)) cs w) = .next (lone (b.atR a (.code c :: .inScope c :: k)) cs w) := stepR_scope
  obtain ⟨e, a₁, w₁, hq, harr⟩ := h b (.inScope c :: k) cs hro hb hr
  cases e with
  | normal => exact ⟨.normal, a₁, w₁, hq, .head h0 s0 (StepsIn.trans harr (.one (fenced_calm hb hr rfl) stepR_inScope))⟩
  | exit id =>
    have hx : exitTo id (.inScope c :: k) = exitTo id k := by simp [exitTo]
    exact ⟨.exit id, a₁, w₁, hq, fun k' hk => .head h0 s0 (harr.1 k' (by rw [hx]; exact hk)),
      fun hr' hk => let ⟨k₁, h1, h2⟩ := harr.2 hr' (by rw [hx]; exact hk); ⟨k₁, h1, .head h0 s0 h2⟩⟩
  | goto l => exact absurd hq (hg _ _ _)
  | ret => exact ⟨_, a₁, w₁, hq, .of_steps (.one h0 s0) harr⟩
  | panic ch => exact ⟨_, a₁, w₁, hq, .of_steps (.one h0 s0) harr⟩
  | outgrown => exact ⟨_, a₁, w₁, hq, .of_steps (.one h0 s0) harr⟩
/-- A loop over a function. -/
theorem range_sound {g : Operand} {g' : Opd} {ps : Array Tmp} {x y : Code} {ax ay : AC} {s : St} {a : Act} {w : World} {X : Nat → Prop} {ι : Nat → Nat} {Q : Ex → St → Prop} {f : Nat}
    {caps : List V} {cus : Array Value} (h : At B r N s a w X ι) (hg : cOpd g = some g') (hu : a.eval g = .func (.func f) #[] cus) (hl' : caps.length = cus.size)
    (hr' : ∀ (i : Nat) (e : V) (u : Value), caps[i]? = some e → cus[i]? = some u → Rep w X ι s.n e u) (hps : ∀ p ∈ ps, p < N) (hx : Link.rel N x ax) (hy : Link.rel N y ay) (hent : Ent P f)
    (hw : ∀ (w : World) (X : Nat → Prop) (ι : Nat → Nat) (us : Array Value), WF w X ι (upd s.σ s.n (some (.loop s.env ps.toList ax ay .ready none))) (s.n + 1) → s.lk ≤ s.n + 1 →
      Reps w X ι (s.n + 1) (.yld s.n :: caps) us → CallsIn Fence.wide 0 P f us w fun e w' => ∃ u v σ' n' X' ι', e = .returned u ∧ (match σ' s.n with
        | some (.loop _ _ _ _ st pend) => st ≠ .busy ∧ Q (pend.getD .normal) { s with σ := upd σ' s.n none, n := n' }
        | _ => False) ∧ WF w' X' ι' σ' n' ∧ Rep w' X' ι' n' v u ∧ Ext w w' X X' ι ι' (upd s.σ s.n (some (.loop s.env ps.toList ax ay .ready none))) σ' (s.n + 1) n' s.lk) :
    (Code.rangeFunc g ps x y).wpIn (Fw r) 0 P (PostOf B r N Q) a w := by
  refine wpIn_rangeFunc fun fn _ => ?_
  -- what is laid ahead of the record
  have enter : ∃ (wd : World) (mark : List Deferred) (D : Nat), WF wd X ι s.σ s.n ∧ Ext w wd X X ι ι s.σ s.σ s.n s.n s.lk ∧
      (Instr.enterLoop fn a.tmps ps x y r).run P w = .ok (wd.heap.size, mark) (wd.alloc (.loop { state := .ready, pending := none, fn, tmps := a.tmps, params := ps, assign := x, body := y, defers := D })) ∧
      Marks B.w.heap.size X wd (mark ++ a.defers) := by
    cases hr : r with
    | none =>
      obtain ⟨b1, b2⟩ := lay_block (lk := s.lk) h.wf (.deferred (some []))
      refine ⟨w.alloc (.deferred (some [])), [markOf w.heap.size], w.heap.size, b1, b2, ?_, ?_⟩
      · rw [run_enterLoop_outer]; simp [markOf]
      · obtain ⟨rs, m1, m2, m3⟩ := h.marks
        have hlt : ∀ q ∈ rs, q < w.heap.size := fun q hq => (Array.getElem?_eq_some_iff.1 (m3 q hq).2.1).1
        refine ⟨w.heap.size :: rs, by simp [m1], List.nodup_cons.2 ⟨fun hm => by have := hlt _ hm; omega, m2⟩, fun q hq => ?_⟩
        rcases List.mem_cons.1 hq with rfl | hq
        · exact ⟨h.ext.size, World.alloc_heap_new w _, fun hX => by have := h.wf.xlt _ hX; omega⟩
        · obtain ⟨c1, c2, c3⟩ := m3 q hq
          exact ⟨c1, by rw [Go.RowKit.Below.heap_alloc _ _ _ (hlt q hq)]; exact c2, c3⟩
    | some l0 =>
      obtain ⟨rec, hrec⟩ := h.rnd l0 hr
      refine ⟨w, [], rec.defers, h.wf, Ext.refl h.wf.xlt, ?_, by simpa using h.marks⟩
      rw [run_enterLoop_inner hrec]
  obtain ⟨wd, mark, D, hwd, hed, hrun, hmk⟩ := enter
  have hrep : LoopRep wd X ι s.n { state := .ready, pending := none, fn, tmps := a.tmps, params := ps, assign := x, body := y, defers := D } s.env ps.toList ax ay .ready none :=
    ⟨rfl, rfl, by simp, rfl, ⟨N, h.size, by simpa using hps, hx, hy⟩, fun t => (h.rep t).ext h.wf hed⟩
  obtain ⟨hw1, he1⟩ := new_loop (lk := s.lk) hwd h.lkn hrep
  have hι1 : setι ι s.n wd.heap.size s.n = wd.heap.size := by simp [setι]
  refine ⟨wd.heap.size, mark, (wd.alloc (.loop { state := .ready, pending := none, fn, tmps := a.tmps, params := ps, assign := x, body := y, defers := D })), { target := .fn (.func f) cus, args := #[.func (.yield wd.heap.size) #[] #[]] }, (wd.alloc (.loop { state := .ready, pending := none, fn, tmps := a.tmps, params := ps, assign := x, body := y, defers := D })), f, #[.func (.yield wd.heap.size) #[] #[]] ++ cus, (wd.alloc (.loop { state := .ready, pending := none, fn, tmps := a.tmps, params := ps, assign := x, body := y, defers := D })), hrun, ?_, fun _ _ => trivial, ?_,
    fun h => by simp [Fw, Fence.wide] at h, ?_⟩
  · have hc : a.eval (.const (.func (.yield wd.heap.size) #[] #[])) = .func (.yield wd.heap.size) #[] #[] := rfl
    simp [rangeCall, resolve, hu, hc, Deferred.ofValue]
  · simpa [invoke] using run_callFunc hent _ _
  · have hreps : Reps (wd.alloc (.loop { state := .ready, pending := none, fn, tmps := a.tmps, params := ps, assign := x, body := y, defers := D })) (addX X wd.heap.size) (setι ι s.n wd.heap.size) (s.n + 1)
        (.yld s.n :: caps) (#[.func (.yield wd.heap.size) #[] #[]] ++ cus) := by
      refine ⟨by simp; omega, fun i e u he hu => ?_⟩
      cases i with
      | zero =>
        simp only [List.getElem?_cons_zero, Option.some.injEq] at he
        subst he
        rw [Array.getElem?_append] at hu
        simp at hu
        subst hu
        have := Rep.yld (w := wd.alloc (.loop { state := .ready, pending := none, fn, tmps := a.tmps, params := ps, assign := x, body := y, defers := D })) (X := addX X wd.heap.size)
          (ι := setι ι s.n wd.heap.size) (n := s.n + 1) s.n (by omega) (by rw [hι1]; simp)
        rwa [hι1] at this
      | succ i =>
        have hu' : cus[i]? = some u := by
          rw [Array.getElem?_append] at hu
          simpa using hu
        exact ((hr' i e u (by simpa using he) hu').ext h.wf hed).ext hwd he1
    refine callsIn_fw ((hw _ _ _ _ hw1 (by have := h.lkn; omega) hreps).mono fun e w' hh => ?_)
    obtain ⟨u, v, σ', n', X', ι', rfl, hm, hwf, -, hext⟩ := hh
    split at hm
    · rename_i env ps' a' b' st pend hrow
      obtain ⟨hst, hq⟩ := hm
      obtain ⟨rec, hrec, hlr⟩ := hwf.loop _ _ _ _ _ _ _ hrow
      have hι' : ι' s.n = wd.heap.size := (hext.hι s.n (by omega)).trans hι1
      rw [hι'] at hrec
      obtain ⟨c1, c2⟩ := end_loop (lk := s.lk) (r' := { rec with state := .exhausted }) hwf (by rw [hrow]; simp) (by rw [hι']; exact hrec) h.lkn
      rw [hι'] at c1 c2
      have e04 := (hed.trans he1).trans (hext.trans c2)
      have hat : At B r N { s with σ := upd σ' s.n none, n := n' } { a with defers := mark ++ a.defers } (w'.putObj wd.heap.size (.loop { rec with state := .exhausted })) X' ι' := by
        refine ⟨c1, h.hlk, Nat.le_trans h.le e04.hn, h.size, fun t => (h.rep t).ext h.wf e04, h.ext.trans (by rw [← h.hlk]; exact e04), ?_, fun l hl => ?_⟩
        · exact ((hmk.ext hwd he1).ext hw1 hext).ext hwf c2
        · obtain ⟨rec0, h0⟩ := h.rnd l hl
          exact e04.loops _ _ h0
      have hend := run_endLoop (P := P) hrec (by rw [hlr.hst]; cases st <;> simp [stM] at hst ⊢)
      generalize w'.putObj wd.heap.size (.loop { rec with state := .exhausted }) = W4 at hat hend
      refine ⟨rec.pending, W4, hend, ?_⟩
      rw [hlr.hpend]
      cases pend with
      | none => exact ⟨_, X', ι', hat, hq⟩
      | some ex =>
        cases ex with
        | normal => exact absurd rfl hlr.hpn
        | ret => exact wpIn_ret ⟨_, X', ι', hat, hq⟩
        | exit id => exact wpIn_exit ⟨_, X', ι', hat, hq⟩
    · exact hm.elim
end

section
variable {P : Program} {T : Tab} {B : Base} {r : Option Nat} {N : Nat}

theorem code_sound (hdraw : @DrawOk (lnk P T) P T) (hmix : P.follows .mixedOrders = true) : ∀ (c : Code) (ac : AC), cCode P N (ownB T) c = some ac → ∀ (s : St) (a : Act) (w : World)
    (X : Nat → Prop) (ι : Nat → Nat) (Q : Ex → St → Prop), @At (lnk P T) B r N s a w X ι → wpC T (@sndC (lnk P T) P T) ac s Q → c.wpIn (Fw r) 0 P (@PostOf (lnk P T) B r N Q) a w := by
  letI := lnk P T
  intro c
  induction c with
  | skip =>
    intro ac hc s a w X ι Q h hw
    simp only [cCode, Option.some.injEq] at hc; subst hc
    exact wpIn_skip ⟨s, X, ι, h, hw⟩
  | label l =>
    intro ac hc s a w X ι Q h hw
    simp only [cCode, Option.some.injEq] at hc; subst hc
    exact wpIn_label ⟨s, X, ι, h, hw⟩
  | exit id =>
    intro ac hc s a w X ι Q h hw
    simp only [cCode, Option.some.injEq] at hc; subst hc
    exact wpIn_exit ⟨s, X, ι, h, hw⟩
  | ret =>
    intro ac hc s a w X ι Q h hw
    simp only [cCode, Option.some.injEq] at hc; subst hc
    exact wpIn_ret ⟨s, X, ι, h, hw⟩
  | goto l => intro ac hc; simp [cCode] at hc
  | refuse why => intro ac hc; simp [cCode] at hc
  | scope c ih =>
    intro ac hc s a w X ι Q h hw
    simp only [cCode] at hc
    exact wpIn_scope (fun l a w hh => hh) (ih ac hc s a w X ι Q h hw)
  | seq x y ihx ihy =>
    intro ac hc s a w X ι Q h hw
    simp only [cCode, Option.bind_eq_bind, Option.bind_eq_some_iff, Option.some.injEq] at hc
    obtain ⟨ax, hx, ay, hy, rfl⟩ := hc
    simp only [wpC] at hw
    refine wpIn_seq (wpIn_mono (ihx ax hx s a w X ι _ h hw) (fun e a' w' hh => ?_))
    cases e with
    | normal =>
      obtain ⟨s', X', ι', h1, h2⟩ := hh
      exact ihy ay hy s' a' w' X' ι' Q h1 h2
    | exit id => exact hh
    | ret => exact hh
    | goto l => exact hh.elim
    | panic ch => exact hh.elim
    | outgrown => exact hh.elim
  | cond x y z ihy ihz =>
    intro ac hc s a w X ι Q h hw
    simp only [cCode, Option.bind_eq_bind, Option.bind_eq_some_iff, Option.some.injEq] at hc
    obtain ⟨x', hx, ay, hy, az, hz, rfl⟩ := hc
    simp only [wpC] at hw
    have he := h.eval hx
    split at hw
    · rename_i hv
      rw [hv] at he
      exact wpIn_cond (rep_bool' he) (ihy ay hy s a w X ι Q h hw)
    · rename_i hv
      rw [hv] at he
      exact wpIn_cond (rep_bool' he) (ihz az hz s a w X ι Q h hw)
    · exact hw.elim
  | block id c ih =>
    intro ac hc s a w X ι Q h hw
    simp only [cCode, Option.map_eq_some_iff] at hc
    obtain ⟨ac', hc', rfl⟩ := hc
    simp only [wpC] at hw
    refine wpIn_block (wpIn_mono (ih ac' hc' s a w X ι _ h hw) (fun e a' w' hh => ?_))
    cases e with
    | normal => exact hh
    | exit i =>
      obtain ⟨s', X', ι', h1, h2⟩ := hh
      simp only [blockW] at h2
      simp only [Exit.inBlock]
      split at h2 <;> rename_i hi
      · rw [if_pos hi]; exact ⟨s', X', ι', h1, h2⟩
      · rw [if_neg hi]; exact ⟨s', X', ι', h1, h2⟩
    | ret => exact hh
    | goto l => exact hh.elim
    | panic ch => exact hh.elim
    | outgrown => exact hh.elim
  | loop c ih =>
    intro ac hc s a w X ι Q h hw
    simp only [cCode, Option.map_eq_some_iff] at hc
    obtain ⟨ac', hc', rfl⟩ := hc
    simp only [wpC] at hw
    have := hw (fun s => ∀ (a : Act) (w : World) (X : Nat → Prop) (ι : Nat → Nat), At B r N s a w X ι → LoopAt (Fw r) P c (PostOf B r N Q) a w) (fun s hs a w X ι h => by
      refine LoopAt.step (wpIn_mono (ih ac' hc' s a w X ι _ h hs) (fun e a' w' hh => ?_))
      cases e with
      | normal =>
        obtain ⟨s', X', ι', h1, h2⟩ := hh
        exact h2 a' w' X' ι' h1
      | exit id => exact hh
      | ret => exact hh
      | goto l => exact hh.elim
      | panic ch => exact hh.elim
      | outgrown => exact hh.elim)
    exact (this a w X ι h).loop
  | region id ops draw =>
    intro ac hc s a w X ι Q h hw
    simp only [cCode] at hc
    split at hc
    · rename_i hd
      subst hd
      simp only [Option.map_eq_some_iff] at hc
      obtain ⟨segs, hds, rfl⟩ := hc
      simp only [wpC] at hw
      exact hdraw B r N id ops segs s a w X ι Q hds h hw
    · rename_i hd
      have hd' : draw = false := by simpa using hd
      subst hd'
      simp only [Option.map_eq_some_iff] at hc
      obtain ⟨al, hal, rfl⟩ := hc
      simp only [wpC] at hw
      exact wpIn_region_list (wpR_sound (Q := fun s => Q .normal s) (fun s a w X ι h1 h2 => ⟨s, X, ι, h1, h2⟩) _ _ hal s a w X ι h hw)
  | rangeFunc g ps x y ihx ihy =>
    intro ac hc s a w X ι Q h hw
    simp only [cCode, Option.bind_eq_bind, Option.bind_eq_some_iff] at hc
    obtain ⟨g', hg, ax, hx, ay, hy, hc⟩ := hc
    split at hc
    · rename_i hps
      simp only [Option.some.injEq] at hc; subst hc
      simp only [wpC, rangeW] at hw
      have hge := h.eval hg
      split at hw
      · rename_i f caps hval
        rw [hval] at hge
        generalize hu : a.eval g = u at hge
        cases hge with
        | fn _ _ cus hl' hr' =>
          obtain ⟨hlk, ⟨hent, hw⟩⟩ := hw
          exact range_sound h hg hu hl' hr' (fun p hp => by simpa using List.all_eq_true.1 hps p (by simpa using hp)) hx hy hent hw
      · exact hw.elim
    · cases hc

end
end Go.Q
end

section
/- Calls, run as the evaluator says. -/
set_option linter.unusedSimpArgs false
set_option linter.unusedVariables false
set_option linter.unusedSectionVars false
namespace Go.Q

section
variable [Link] {P : Program} {T : Tab} {B : Base} {r : Option Nat} {N : Nat} {s : St} {a : Act} {w : World} {X : Nat → Prop} {ι : Nat → Nat}

/-- One result. -/
def resSem (tmps : Array Value) : ResultVar → Sem Value
  | .tmp t => pure (tmps.getD t undef)
  | .cell a t => do loadVar t (← asAddr (tmps.getD a undef))

theorem results_eq (fn : Func) (tmps : Array Value) : results fn tmps = (do let vs ← fn.results.mapM (resSem tmps); pure (if h : vs.size = 1 then vs[0] else .tuple vs)) := by
  unfold results
  congr 1
  try (congr 1)
  try (funext x; cases x <;> rfl)

theorem res_sound (h : At B r N s a w X ι) {x : ResultVar} {y : Res} (hc : cRes P x = some y) {v : V} (ho : resOf s y = some v) :
    ∃ u, (resSem a.tmps x).run P w = .ok u w ∧ Rep w X ι s.n v u := by
  cases x with
  | tmp t =>
    simp only [cRes, Option.some.injEq] at hc; subst hc
    simp only [resOf, Option.some.injEq] at ho; subst ho
    exact ⟨_, rfl, h.rep t⟩
  | cell t ty =>
    simp only [cRes, Option.bind_eq_bind, Option.bind_eq_some_iff] at hc
    obtain ⟨i, hi, hc⟩ := hc
    split at hc
    · rename_i h1
      simp only [Option.some.injEq] at hc; subst hc
      simp only [Bool.or_eq_true, beq_iff_eq] at h1
      simp only [resOf] at ho
      have hr := h.rep t
      split at ho
      · rename_i id sz' q j henv
        rw [henv] at hr
        simp only [Option.bind_eq_some_iff] at ho
        obtain ⟨e, he, hl⟩ := ho
        obtain ⟨_, u, hu⟩ := rep_at h.wf he
        generalize hx : a.tmps.getD t undef = x at hr
        cases hr with
        | ptr _ _ _ _ hid =>
          obtain ⟨z, hz, hrz⟩ := load_sound (P := P) (w := w) (X := X) (ι := ι) (n := s.n) (b := ι id) (o := q * sz' + j) (u := fun k => u (j + k)) hi h1 (cs := e.cells.drop j)
            (fun k c hk => by rw [List.getElem?_drop] at hk; have := hu _ _ hk; rwa [← Nat.add_assoc] at this) hl
          exact ⟨z, by simp only [resSem, hx]; simp [asAddr, Sem.run_bind, hz], hrz⟩
      · cases ho
    · cases hc

theorem resL_sound (h : At B r N s a w X ι) : ∀ (xs : List ResultVar) (ys : List Res) (vs : List V), xs.mapM (cRes P) = some ys → ys.mapM (resOf s) = some vs →
    ∃ us : List Value, (xs.mapM (resSem a.tmps)).run P w = .ok us w ∧ us.length = vs.length ∧ ∀ (i : Nat) (v : V) (u : Value), vs[i]? = some v → us[i]? = some u → Rep w X ι s.n v u
  | [], ys, vs, h1, h2 => by
    simp at h1; subst h1; simp at h2; subst h2
    exact ⟨[], by simp, rfl, fun i v u hv => by simp at hv⟩
  | x :: xs, ys, vs, h1, h2 => by
    simp only [List.mapM_cons, Option.pure_def, Option.bind_eq_bind, Option.bind_eq_some_iff, Option.some.injEq] at h1
    obtain ⟨y, hy, ys', hys, rfl⟩ := h1
    simp only [List.mapM_cons, Option.pure_def, Option.bind_eq_bind, Option.bind_eq_some_iff, Option.some.injEq] at h2
    obtain ⟨v, hv, vs', hvs, rfl⟩ := h2
    obtain ⟨u, hu, hr⟩ := res_sound h hy hv
    obtain ⟨us, hus, hl, hrs⟩ := resL_sound h xs ys' vs' hys hvs
    refine ⟨u :: us, by simp [List.mapM_cons, Sem.run_bind, hu, hus], by simp [hl], fun i v' u' hv' hu' => ?_⟩
    cases i with
    | zero => simp at hv' hu'; subst hv'; subst hu'; exact hr
    | succ i => exact hrs i v' u' (by simpa using hv') (by simpa using hu')

theorem results_sound (h : At B r N s a w X ι) {fn : Func} {rs : List Res} (hc : fn.results.toList.mapM (cRes P) = some rs) {v : V} (ho : outOf s rs = some v) :
    ∃ u, (results fn a.tmps).run P w = .ok u w ∧ Rep w X ι s.n v u := by
  have hlen := (mapM_get' _ _ _ hc).1
  have key : ∀ vs, rs.mapM (resOf s) = some vs → ∃ us : List Value, (fn.results.mapM (resSem a.tmps)).run P w = .ok us.toArray w ∧ us.length = vs.length ∧
      ∀ (i : Nat) (v : V) (u : Value), vs[i]? = some v → us[i]? = some u → Rep w X ι s.n v u := by
    intro vs hvs
    obtain ⟨us, h1, h2, h3⟩ := resL_sound h _ _ _ hc hvs
    refine ⟨us, ?_, h2, h3⟩
    rw [Array.mapM_eq_mapM_toList]
    simp only [Sem.run_map, h1, Result.andThen_ok]
  rw [results_eq]
  match rs, ho with
  | [], ho =>
    simp only [outOf, Option.some.injEq] at ho; subst ho
    obtain ⟨us, h1, h2, -⟩ := key [] rfl
    have : us = [] := by cases us; rfl; simp at h2
    subst this
    exact ⟨.tuple #[], by simp [Sem.run_bind, h1], .undef⟩
  | [y], ho =>
    simp only [outOf] at ho
    obtain ⟨us, h1, h2, h3⟩ := key [v] (by simp [List.mapM_cons, ho])
    match us, h2 with
    | [u], _ => exact ⟨u, by simp [Sem.run_bind, h1], h3 0 v u rfl rfl⟩
  | y :: y' :: ys, ho =>
    simp only [outOf, Option.map_eq_some_iff] at ho
    obtain ⟨vs, hvs, rfl⟩ := ho
    obtain ⟨us, h1, h2, h3⟩ := key vs hvs
    have hvl := (mapM_get' _ _ _ hvs).1
    simp only [List.length_cons] at hvl
    refine ⟨.tuple us.toArray, ?_, .tup _ _ (by simp [h2]) (fun i e u he hu => h3 i e u he (by simpa using hu))⟩
    have hne : us.length ≠ 1 := by omega
    simp [Sem.run_bind, h1, hne]

/-- Blocks of one's own that the store does not speak of may turn. -/
theorem Ext.put_new {w0 w : World} {X0 X : Nat → Prop} {ι0 ι : Nat → Nat} {σ0 σ : Sto} {n0 n lk : Nat} (h : Ext w0 w X0 X ι0 ι σ0 σ n0 n lk) {b : Nat} (hb : w0.heap.size ≤ b) (o : Obj) :
    Ext w0 (w.putObj b o) X0 X ι0 ι σ0 σ n0 n lk where
  hn := h.hn
  os := h.os
  tape := h.tape
  output := h.output
  size := by simpa using h.size
  heap := fun k hk ho => by rw [World.putObj_heap_other (by omega)]; exact h.heap k hk ho
  cells := fun k c t f hk => by
    have hlt := (Array.getElem?_eq_some_iff.1 hk).1
    rw [World.putObj_heap_other (by omega)]; exact h.cells k c t f hk
  loops := fun k q hk => by
    have hlt := (Array.getElem?_eq_some_iff.1 hk).1
    rw [World.putObj_heap_other (by omega)]; exact h.loops k q hk
  hι := h.hι
  xnew := h.xnew
  xold := h.xold
  xlt := h.xlt
  own := h.own
  lock := h.lock

/-- An activation leaves: its marks are taken. -/
theorem leaves {fn : Func} {R : Ending → World → Prop} {tmps : Array Value} : ∀ (rs : List Nat) (a : Act) (w : World), At B none N s a w X ι → a.tmps = tmps → a.defers = rs.map markOf → rs.Nodup →
    (∀ q ∈ rs, B.w.heap.size ≤ q ∧ w.heap[q]? = some (.deferred (some [])) ∧ ¬ X q) →
    (∀ (a : Act) (w : World), At B none N s a w X ι → a.tmps = tmps → ∃ v, (results fn tmps).run P w = .ok v w ∧ R (.returned v) w) →
    LeavesInM Fence.wide 0 P fn tmps R (rs.map markOf) .returning w
  | [], a, w, h, ht, _, _, _, hR => by
    simp only [List.map_nil, LeavesInM, LeavesIn]
    exact hR a w h ht
  | q :: rs, a, w, h, ht, hd, hn, hm, hR => by
    simp only [List.map_cons, LeavesInM]
    obtain ⟨m1, m2, m3⟩ := hm q (by simp)
    have hc : ∀ c t f, Obj.deferred (some []) ≠ .cells c t f := fun _ _ _ h => by cases h
    have hv : ∀ c t, Obj.deferred (some []) ≠ .pending c t := fun _ _ h => by cases h
    obtain ⟨hn1, hn2⟩ := List.nodup_cons.1 hn
    have hrest : ∀ q' ∈ rs, B.w.heap.size ≤ q' ∧ (w.putObj q (.deferred none)).heap[q']? = some (.deferred (some [])) ∧ ¬ X q' := fun q' hq' => by
      obtain ⟨c1, c2, c3⟩ := hm q' (List.mem_cons_of_mem _ hq')
      exact ⟨c1, by
        have hne : q' ≠ q := fun e => hn1 (e ▸ hq')
        rw [World.putObj_heap_other hne]; exact c2, c3⟩
    refine ⟨by simp, .inl ⟨q, _, rfl, run_takeDeferred m2, ?_⟩⟩
    refine leaves rs { a with defers := rs.map markOf } _ ?_ ht rfl hn2 hrest hR
    exact ⟨put_dead h.wf m2 hc hv (fun id hid e => m3 (e ▸ h.wf.own id hid)), h.hlk, h.le, h.size, fun t => (h.rep t).put m2 hc hv, h.ext.put_new m1 _,
      ⟨rs, rfl, hn2, hrest⟩, fun l hl => by cases hl⟩

end
end Go.Q
end

section
/- What the evaluator says of a call, the machine does. -/
set_option linter.unusedSimpArgs false
set_option linter.unusedVariables false
set_option linter.unusedSectionVars false
namespace Go.Q

/-- The table is the program's. -/
def TabOf (P : Program) (T : Tab) : Prop := ∀ f fn, T.fn f = some fn → ∃ F, P.funcs[f]? = some F ∧ cFunc P (ownB T) F = some fn ∧ (F.name == "runtime.NumGoroutine") = false

section
variable {P : Program} {T : Tab}

theorem cFunc_spec {F : Func} {fn : Fn} (h : cFunc P (ownB T) F = some fn) : ∃ c, F.body = some c ∧ cCode P F.ntmps (ownB T) c = some fn.body ∧
    F.results.toList.mapM (cRes P) = some fn.res ∧ fn.np ≤ F.ntmps := by
  simp only [cFunc, Option.bind_eq_bind, Option.bind_eq_some_iff] at h
  obtain ⟨c, hc, b, hb, rs, hrs, h⟩ := h
  split at h
  · rename_i hle
    simp only [Option.some.injEq] at h
    subst h
    exact ⟨c, hc, hb, hrs, hle⟩
  · cases h

theorem start_rep [Link] {w : World} {X : Nat → Prop} {ι : Nat → Nat} {n k : Nat} {args : List V} {us : Array Value} (h : Reps w X ι n args us) (t : Nat) :
    Rep w X ι n (envOf args t) ((us ++ Array.replicate k undef).getD t undef) := by
  simp only [envOf, Array.getD_eq_getD_getElem?, Array.getElem?_append]
  split
  · rename_i hlt
    have hlt' : t < args.length := by rw [← h.1]; exact hlt
    rw [List.getElem?_eq_getElem hlt', Array.getElem?_eq_getElem hlt]
    exact h.2 t _ _ (List.getElem?_eq_getElem hlt') (Array.getElem?_eq_getElem hlt)
  · rename_i hlt
    have hlt' : args.length ≤ t := by rw [← h.1]; omega
    rw [List.getElem?_eq_none hlt']
    rw [Array.getElem?_replicate]
    split <;> exact .undef

/-- A function's body, from its start to its end. -/
theorem body_sound (hdraw : @DrawOk (lnk P T) P T) (hmix : P.follows .mixedOrders = true) {F : Func} {fn : Fn} {f : FuncId} (hf : P.funcs[f]? = some F) (hc : cFunc P (ownB T) F = some fn)
    {w : World} {X : Nat → Prop} {ι : Nat → Nat} {σ : Sto} {n lk : Nat} {args : List V} {us : Array Value} (hw : @WF (lnk P T) w X ι σ n) (hl : lk ≤ n) (hr : Reps w X ι n args us)
    {Q : V → St → Prop} (h : wpC T (@sndC (lnk P T) P T) fn.body ⟨envOf args, σ, n, lk⟩ fun ex s => isEnd ex = true ∧ ∃ v, outOf s fn.res = some v ∧ Q v s) :
    CallsIn Fence.wide 0 P f us w fun e w' => ∃ u v s X' ι', e = .returned u ∧ Q v s ∧ @WF (lnk P T) w' X' ι' s.σ s.n ∧ Rep w' X' ι' s.n v u ∧ Ext w w' X X' ι ι' σ s.σ n s.n lk := by
  letI := lnk P T
  obtain ⟨c, hb, hcode, hres, hnp⟩ := cFunc_spec hc
  refine callsIn_of_wp_marks (fn := F) (c := c) hf hb trivial ?_
  have hat : At ⟨w, X, ι, σ, n, lk⟩ none F.ntmps ⟨envOf args, σ, n, lk⟩ { tmps := us ++ Array.replicate (F.ntmps - us.size) undef, defers := [] } w X ι :=
    ⟨hw, rfl, hl, by simp; omega, fun t => start_rep hr t, Ext.refl hw.xlt, ⟨[], rfl, List.nodup_nil, by simp⟩, fun l hl => by cases hl⟩
  have := code_sound (r := none) hdraw hmix c fn.body hcode _ _ _ _ _ _ hat h
  refine wpIn_mono this (fun e a' w' hh => ?_)
  have fin : ∀ (s : St) (X' : Nat → Prop) (ι' : Nat → Nat), At ⟨w, X, ι, σ, n, lk⟩ none F.ntmps s a' w' X' ι' → (∃ v, outOf s fn.res = some v ∧ Q v s) →
      LeavesInM Fence.wide 0 P F a'.tmps (fun e w' => ∃ u v s X' ι', e = .returned u ∧ Q v s ∧ WF w' X' ι' s.σ s.n ∧ Rep w' X' ι' s.n v u ∧ Ext w w' X X' ι ι' σ s.σ n s.n lk) a'.defers .returning w' := by
    intro s X' ι' h1 h2
    obtain ⟨v, hv, hq⟩ := h2
    obtain ⟨rs, m1, m2, m3⟩ := h1.marks
    rw [m1]
    refine leaves rs a' w' h1 rfl m1 m2 m3 (fun a2 w2 h3 ht => ?_)
    obtain ⟨u, hu, hru⟩ := results_sound (P := P) h3 hres hv
    rw [ht] at hu
    exact ⟨u, hu, u, v, s, X', ι', rfl, hq, h3.wf, hru, h3.ext⟩
  cases e with
  | normal => obtain ⟨s, X', ι', h1, -, h2⟩ := hh; exact fin s X' ι' h1 h2
  | ret => obtain ⟨s, X', ι', h1, -, h2⟩ := hh; exact fin s X' ι' h1 h2
  | exit id => obtain ⟨s, X', ι', h1, h2, -⟩ := hh; simp [isEnd] at h2
  | goto l => exact hh.elim
  | panic ch => exact hh.elim
  | outgrown => exact hh.elim

theorem round_sound (hdraw : @DrawOk (lnk P T) P T) (hmix : P.follows .mixedOrders = true) {l : Nat} {env : Nat → V} {a b : AC} {σ : Sto} {n lk : Nat} {Q : Out → Prop}
    (h : jobW T (@sndC (lnk P T) P T) (.round l env a b σ n lk) Q) : @sndC (lnk P T) P T (.round l env a b σ n lk) Q := by
  letI := lnk P T
  intro w X ι N tmps fn ca cb hw hl hlk ⟨env0, ps0, a0, b0, pend0, hrow⟩ hN hca hcb hrep
  obtain ⟨rec, hrec, -⟩ := hw.loop _ _ _ _ _ _ _ hrow
  have hln : l < n := hw.dom l (by rw [hrow]; simp)
  have hat : At ⟨w, X, ι, σ, n, lk⟩ (some (ι l)) N ⟨env, σ, n, lk⟩ { tmps := tmps, defers := [] } w X ι :=
    ⟨hw, rfl, hl, hN, hrep, Ext.refl hw.xlt, ⟨[], rfl, List.nodup_nil, by simp⟩, fun q hq => by cases hq; exact ⟨rec, hrec⟩⟩
  simp only [jobW] at h
  refine roundIn_of_wpIn (F := Fence.wide) trivial ?_
  have h1 := code_sound (B := ⟨w, X, ι, σ, n, lk⟩) (r := some (ι l)) (N := N) hdraw hmix ca a hca _ _ _ _ _ _ hat h
  refine wpIn_mono h1 (fun e a1 w1 hh => ?_)
  cases e with
  | normal =>
    obtain ⟨s1, X1, ι1, hat1, -, env', ps, a', b', pend, hrow1, hbody⟩ := hh
    obtain ⟨rec1, hrec1, hlr1⟩ := hat1.wf.loop _ _ _ _ _ _ _ hrow1
    have hι1 : ι1 l = ι l := hat1.ext.hι l hln
    rw [hι1] at hrec1
    have hready : rec1.state = .ready := by rw [hlr1.hst]; rfl
    have hlk1 : s1.lk ≤ l := by rw [hat1.hlk]; exact hlk
    obtain ⟨c1, c2⟩ := put_loop (lk := s1.lk) (r' := { rec1 with state := .busy }) (env := env') (ps := ps) (a := a') (b := b') (st := .busy) (pend := pend) hat1.wf hrow1 (by rw [hι1]; exact hrec1) hlk1
      ⟨rfl, hlr1.hpend, hlr1.hpn, hlr1.hps, hlr1.code, hlr1.rep⟩
    rw [hι1] at c1 c2
    refine ⟨_, run_beginRound hrec1 hready, ?_⟩
    have hat2 := hat1.put (dst := none) (v := .undef) (u := undef) rfl .undef c1 c2
    have h2 := code_sound (B := ⟨w, X, ι, σ, n, lk⟩) (r := some (ι l)) (N := N) hdraw hmix cb b hcb _ _ _ _ _ _ hat2 hbody
    refine wpIn_mono h2 (fun e2 a2 w2 hh2 => ?_)
    have fin : ∀ (ex : Ex) (jump : Option Code), jump = (if ex = .normal then none else pendM (some ex)) → jump.isNone = decide (ex = .normal) → (∃ s X' ι', At ⟨w, X, ι, σ, n, lk⟩ (some (ι l)) N s a2 w2 X' ι' ∧
        ((∃ env2 ps2 a2 b2 pend2, s.σ l = some (.loop env2 ps2 a2 b2 .busy pend2)) ∧ Q (.fin ex s.σ s.n))) →
        ∃ v w', (Instr.endRound (ι l) jump).run P w2 = .ok v w' ∧ ∃ ex σ' n' X' ι' env2 ps2 a2 b2 pend2, Ending.returned v = .returned (.bool (decide (ex = .normal))) ∧ Q (.fin ex σ' n') ∧
          σ' l = some (.loop env2 ps2 a2 b2 .busy pend2) ∧ WF w' X' ι' (upd σ' l (some (roundEnd env2 ps2 a2 b2 ex))) n' ∧
          Ext w w' X X' ι ι' σ (upd σ' l (some (roundEnd env2 ps2 a2 b2 ex))) n n' lk := by
      intro ex jump hj hjn ⟨s, X', ι', hat3, ⟨env2, ps2, a2', b2, pend2, hrow2⟩, hq⟩
      obtain ⟨rec2, hrec2, hlr2⟩ := hat3.wf.loop _ _ _ _ _ _ _ hrow2
      have hι2 : ι' l = ι l := hat3.ext.hι l hln
      rw [hι2] at hrec2
      have hlk2 : s.lk ≤ l := by rw [hat3.hlk]; exact hlk
      obtain ⟨d1, d2⟩ := put_loop (lk := s.lk) (r' := { rec2 with state := if jump.isNone then .ready else .done, pending := jump }) (env := env2) (ps := ps2) (a := a2') (b := b2)
        (st := if ex = .normal then .ready else .done) (pend := if ex = .normal then none else some ex) hat3.wf hrow2 (by rw [hι2]; exact hrec2) hlk2
        ⟨by rw [hjn]; cases ex <;> simp [stM], by rw [hj]; cases ex <;> simp [pendM], by cases ex <;> simp, hlr2.hps, hlr2.code, hlr2.rep⟩
      rw [hι2] at d1 d2
      refine ⟨_, _, run_endRound jump hrec2, ex, s.σ, s.n, X', ι', env2, ps2, a2', b2, pend2, by rw [hjn], hq, hrow2, d1, hat3.ext.trans ?_⟩
      rw [hat3.hlk] at d2
      exact d2
    cases e2 with
    | normal => exact fin .normal none rfl rfl hh2
    | ret => exact fin .ret (some .ret) (by simp [pendM]) (by simp) hh2
    | exit id => exact fin (.exit id) (some (.exit id)) (by simp [pendM]) (by simp) hh2
    | goto q => exact hh2.elim
    | panic ch => exact hh2.elim
    | outgrown => exact hh2.elim
  | exit id => obtain ⟨_, _, _, _, h0, _⟩ := hh; cases h0
  | ret => obtain ⟨_, _, _, _, h0, _⟩ := hh; cases h0
  | goto q => exact hh.elim
  | panic ch => exact hh.elim
  | outgrown => exact hh.elim

theorem job_sound (hdraw : @DrawOk (lnk P T) P T) (hmix : P.follows .mixedOrders = true) (hT : TabOf P T) (j : Job) (Q : Out → Prop) (h : jobW T (@sndC (lnk P T) P T) j Q) :
    @sndC (lnk P T) P T j Q := by
  letI := lnk P T
  cases j with
  | pure f ts =>
    obtain ⟨fn, h1, h2, h3, h4⟩ := h
    obtain ⟨F, hF, hc, hname⟩ := hT f fn h1
    obtain ⟨c, hb, -⟩ := cFunc_spec hc
    refine ⟨⟨F, hF, hname, by rw [hb]; rfl⟩, fun w X0 us hX hr => ?_⟩
    refine (body_sound (lk := 0) hdraw hmix hF hc (WF.empty (n := 0) (ι := fun _ => 0) w hX) (Nat.le_refl _) hr h4).mono fun e w' hh => ?_
    obtain ⟨u, v, s, X', ι', rfl, ⟨r, hback, hq⟩, hwf, hrep, hext⟩ := hh
    exact ⟨u, r, rfl, hq, X', ι', s.σ, s.n, v, hwf, hrep, hback, hext⟩
  | raw f args σ n lk =>
    obtain ⟨fn, h1, h2, h4⟩ := h
    obtain ⟨F, hF, hc, hname⟩ := hT f fn h1
    obtain ⟨c, hb, -⟩ := cFunc_spec hc
    refine ⟨⟨F, hF, hname, by rw [hb]; rfl⟩, fun w X ι us hw hl hr => ?_⟩
    refine (body_sound (lk := lk) hdraw hmix hF hc hw hl hr h4).mono fun e w' hh => ?_
    obtain ⟨u, v, s, X', ι', rfl, hq, hwf, hrep, hext⟩ := hh
    exact ⟨u, v, s.σ, s.n, X', ι', rfl, hq, hwf, hrep, hext⟩
  | round l env a b σ n lk => exact round_sound hdraw hmix h

/-- The evaluator's word holds of the machine. -/
theorem run_sound (hdraw : @DrawOk (lnk P T) P T) (hmix : P.follows .mixedOrders = true) (hT : TabOf P T) {j : Job} {Q : Out → Prop} (h : run T j Q) : @sndC (lnk P T) P T j Q :=
  letI := lnk P T
  h (sndC P T) (sndC_mono P T) (job_sound hdraw hmix hT)

end
end Go.Q
end

section
/- Operations that draw their order: the evaluator's word is the same in every order. -/
set_option linter.unusedSimpArgs false
set_option linter.unusedVariables false
namespace Go.Q

theorem partsOf_congr {ρ ρ' : Opd → V} : ∀ (ps : List (Nat × Nat × Opd)) (z : List V), (∀ p ∈ ps, ρ p.2.2 = ρ' p.2.2) → partsOf ρ z ps = partsOf ρ' z ps
  | [], z, _ => rfl
  | (off, size, x) :: ps, z, h => by
    have h0 : ρ x = ρ' x := h (off, size, x) (by simp)
    simp only [partsOf, h0]
    split
    · exact partsOf_congr ps _ (fun p hp => h p (List.mem_cons_of_mem _ hp))
    · rfl

theorem boundOf_congr {ρ ρ' : Opd → V} {o : Option Opd} {d most : Nat} (h : ∀ x, o = some x → ρ x = ρ' x) : boundOf ρ o d most = boundOf ρ' o d most := by
  cases o with
  | none => rfl
  | some x => simp only [boundOf, h x rfl]

theorem ev_congr {ρ ρ' : Opd → V} {σ : Sto} {n lk : Nat} {ai : AI} (h : ∀ x ∈ ai.opds, ρ x = ρ' x) : ev ρ σ n lk ai = ev ρ' σ n lk ai := by
  cases ai <;> simp only [AI.opds] at h
  case build z ps => simp only [ev, partsOf_congr ps z (fun p hp => h _ (List.mem_map.2 ⟨p, hp, rfl⟩))]
  case lit sz es =>
    have h1 : es.map ρ = es.map ρ' := List.map_congr_left (fun x hx => h x hx)
    have h2 : (es.all fun x => decide ((ρ x).cells.length = sz) && (ρ x).cells.all V.one) = es.all fun x => decide ((ρ' x).cells.length = sz) && (ρ' x).cells.all V.one := by
      apply Bool.eq_iff_iff.2
      simp only [List.all_eq_true]
      exact ⟨fun hh x hx => by rw [← h x hx]; exact hh x hx, fun hh x hx => by rw [h x hx]; exact hh x hx⟩
    simp only [ev, h1, h2]
  case mkfn f es => simp only [ev, List.map_congr_left (fun x hx => h x hx)]
  case mkbnd f es => simp only [ev, List.map_congr_left (fun x hx => h x hx)]
  case min es => simp only [ev, List.map_congr_left (fun x hx => h x hx)]
  case max es => simp only [ev, List.map_congr_left (fun x hx => h x hx)]
  case slice sz x lo hi =>
    have h0 := h x (by simp)
    have h1 : ∀ d m, boundOf ρ lo d m = boundOf ρ' lo d m := fun d m => boundOf_congr (fun y hy => h y (by simp [hy]))
    have h2 : ∀ d m, boundOf ρ hi d m = boundOf ρ' hi d m := fun d m => boundOf_congr (fun y hy => h y (by simp [hy]))
    simp only [ev, h0, h1, h2]
  case sliceS x lo hi =>
    have h0 := h x (by simp)
    have h1 : ∀ d m, boundOf ρ lo d m = boundOf ρ' lo d m := fun d m => boundOf_congr (fun y hy => h y (by simp [hy]))
    have h2 : ∀ d m, boundOf ρ hi d m = boundOf ρ' hi d m := fun d m => boundOf_congr (fun y hy => h y (by simp [hy]))
    simp only [ev, h0, h1, h2]
  case call => simp [ev]
  case callv => simp [ev]
  case inv => simp [ev]
  case slice3 sz x lo hi mx =>
    have h0 := h x (by simp)
    have h1 : ∀ d m, boundOf ρ lo d m = boundOf ρ' lo d m := fun d m => boundOf_congr (fun y hy => h y (by simp [hy]))
    have h2 : ∀ d m, boundOf ρ (some hi) d m = boundOf ρ' (some hi) d m := fun d m => boundOf_congr (fun y hy => by cases hy; exact h hi (by simp))
    have h3 := h mx (by simp)
    have h4 := h hi (by simp)
    simp only [ev, h0, h1, h2, h3, h4]
  all_goals
    first
      | rfl
      | simp only [ev, h _ (List.mem_cons_self ..), h _ (List.mem_cons_of_mem _ (List.mem_cons_self ..)), h _ (List.mem_cons_of_mem _ (List.mem_cons_of_mem _ (List.mem_cons_self ..)))]
      | simp only [ev, h _ (List.mem_cons_self ..), h _ (List.mem_cons_of_mem _ (List.mem_cons_self ..))]
      | simp only [ev, h _ (List.mem_cons_self ..)]

section
variable {T : Tab} {C : Calls'}

theorem opW_congr {fs : Bool} {ρ ρ' : Opd → V} {σ : Sto} {n lk : Nat} {ai : AI} {Q : V → Sto → Nat → Prop} (h : ∀ x ∈ ai.opds, ρ x = ρ' x)
    (hh : opW T C fs ρ σ n lk ai Q) : opW T C fs ρ' σ n lk ai Q := by
  have he := ev_congr (σ := σ) (n := n) (lk := lk) h
  unfold opW at *
  split at hh
  · simp only [AI.opds] at h
    rwa [List.map_congr_left (fun x hx => h x hx)] at hh
  · simp only [AI.opds] at h
    rename_i g args
    rw [h g (by simp)] at hh
    rw [List.map_congr_left (fun x hx => h x (List.mem_cons_of_mem _ hx))] at hh
    exact hh
  · simp only [AI.opds] at h
    rename_i x tbl args
    rw [h x (by simp)] at hh
    rw [List.map_congr_left (fun y hy => h y (List.mem_cons_of_mem _ hy))] at hh
    exact hh
  · rw [he] at hh; exact hh

/-- What an operation comes to is one thing, where nothing is written that was there. -/
theorem opW_out {ρ : Opd → V} {σ : Sto} {n lk : Nat} {ai : AI} {Q : V → Sto → Nat → Prop} (h : opW T C false ρ σ n lk ai Q) :
    ∃ v σ' n', Q v σ' n' ∧ ∀ Q' : V → Sto → Nat → Prop, Q' v σ' n' → opW T C false ρ σ n lk ai Q' := by
  have call : ∀ {f args}, callW T C false f args σ n lk Q → ∃ v σ' n', Q v σ' n' ∧ ∀ Q' : V → Sto → Nat → Prop, Q' v σ' n' → callW T C false f args σ n lk Q' := by
    intro f args hc
    unfold callW at *
    cases hm : T.mode f <;> simp only [hm] at hc ⊢
    case raw => simp at hc
    all_goals
      obtain ⟨ts, h1, r, h2, D, h3, h4, h5, h6⟩ := hc
      exact ⟨_, _, _, h6, fun Q' hq => ⟨ts, h1, r, h2, D, h3, h4, h5, hq⟩⟩
  unfold opW at *
  split at h
  · exact call h
  · split at h
    · exact call h
    · exact call h
    · simp at h
    · exact h.elim
  · simp at h
  · split at h
    · rename_i v σ' n' he
      exact ⟨v, σ', n', h, fun Q' hq => hq⟩
    · exact h.elim

def DOp.lab (d : DOp) (n0 : Nat) : Nat := n0 + BIG * d.rank
def DOp.view (d : DOp) (n0 : Nat) (σ : Sto) : Sto := if d.pure then Sto.empty else if d.wr then σ else hide σ n0 (d.lab n0) d.hid
def DOp.top (d : DOp) (n0 : Nat) : Nat := d.lab n0 + (if d.lays then BIG else 0)
def DOp.fin (d : DOp) (n0 : Nat) (σ σo : Sto) : Sto := if d.pure then σ else if d.wr then σo else match d.low with
  | some lo => mergeL σ σo n0 lo (d.top n0) d.hid
  | none => if d.lays then merge σ σo (d.lab n0) else σ
def DOp.lok (d : DOp) (n0 lk : Nat) : Nat := if d.wr && !d.pure then lk else n0 + BIG * d.lo
/-- What an operation that does not write all may write. -/
def DOp.W (d : DOp) (n0 id : Nat) : Prop := d.calm = true ∧ match d.low with
  | some lo => n0 + BIG * lo ≤ id ∧ id < d.top n0 ∧ ¬ inHid n0 d.hid id
  | none => d.lays = true ∧ d.lab n0 ≤ id ∧ id < d.lab n0 + BIG

theorem fin_calm {d : DOp} (hc : d.calm = true) (n0 : Nat) (σ σo : Sto) (id : Nat) : (d.W n0 id ∧ d.fin n0 σ σo id = σo id) ∨ (¬ d.W n0 id ∧ d.fin n0 σ σo id = σ id) := by
  have hp : d.pure = false ∧ d.wr = false := by simpa [DOp.calm] using hc
  unfold DOp.fin DOp.W
  simp only [hp.1, hp.2, hc, Bool.false_eq_true, if_false, true_and]
  cases d.low with
  | none =>
    cases hl : d.lays with
    | false => right; simp
    | true =>
      by_cases h : d.lab n0 ≤ id ∧ id < d.lab n0 + BIG
      · left; simp [merge, h]
      · right; simp only [merge, h, if_true, if_false, and_true]; simp
  | some lo =>
    by_cases h : n0 + BIG * lo ≤ id ∧ id < d.top n0 ∧ ¬ inHid n0 d.hid id
    · left; exact ⟨h, by simp only [mergeL]; rw [if_pos h]⟩
    · right; exact ⟨h, by simp only [mergeL]; rw [if_neg h]⟩

theorem hideR_eq (σ : Sto) (n0 : Nat) : ∀ (hid : List Nat) (id : Nat), hideR σ n0 hid id = if inHid n0 hid id then none else σ id
  | [], id => by simp [hideR, inHid]
  | r :: rs, id => by
    simp only [hideR]
    by_cases h : n0 + BIG * r ≤ id ∧ id < n0 + BIG * r + BIG
    · rw [if_pos h, if_pos ⟨r, by simp, h⟩]
    · rw [if_neg h, hideR_eq σ n0 rs id]
      by_cases h2 : inHid n0 rs id
      · obtain ⟨q, hq, h3⟩ := h2
        rw [if_pos ⟨q, hq, h3⟩, if_pos ⟨q, List.mem_cons_of_mem _ hq, h3⟩]
      · rw [if_neg h2, if_neg]
        rintro ⟨q, hq, h3⟩
        rcases List.mem_cons.1 hq with rfl | hq
        · exact h h3
        · exact h2 ⟨q, hq, h3⟩

theorem big_pos : 0 < BIG := by have := big_le; omega

/-- What the one may write, the other one does not see. -/
theorem W_hid {d e : DOp} {n0 id : Nat} (h3 : d.lays = true → d.rank ∈ e.hid) (h4 : ∀ r, d.lo ≤ r → r < d.rank → r ∈ d.hid ∨ r ∈ e.hid) (h : d.W n0 id) : inHid n0 e.hid id := by
  obtain ⟨hc, h⟩ := h
  cases hlow : d.low with
  | none =>
    rw [hlow] at h
    exact ⟨_, h3 h.1, h.2⟩
  | some lo =>
    rw [hlow] at h
    obtain ⟨a1, a2, a3⟩ := h
    have hlo : d.lo = lo := by simp [DOp.lo, hlow]
    by_cases hlt : id < d.lab n0
    · have hb := big_pos
      have e1 : BIG * ((id - n0) / BIG) ≤ id - n0 := Nat.mul_div_le _ _
      have e2 : id - n0 < BIG * ((id - n0) / BIG) + BIG := by
        have := Nat.lt_mul_div_succ (id - n0) hb
        rwa [Nat.mul_add, Nat.mul_one] at this
      have r1 : lo ≤ (id - n0) / BIG := (Nat.le_div_iff_mul_le hb).2 (by rw [Nat.mul_comm]; omega)
      have r2 : (id - n0) / BIG < d.rank := (Nat.div_lt_iff_lt_mul hb).2 (by unfold DOp.lab at hlt; rw [Nat.mul_comm]; omega)
      rcases h4 _ (by omega) r2 with h5 | h5
      · exact absurd ⟨_, h5, by omega, by omega⟩ a3
      · exact ⟨_, h5, by omega, by omega⟩
    · unfold DOp.top at a2
      cases hl : d.lays with
      | false => rw [hl] at a2; simp at a2; omega
      | true => rw [hl] at a2; simp only [if_true] at a2; exact ⟨_, h3 hl, by unfold DOp.lab at hlt; omega, by unfold DOp.lab at a2; omega⟩

theorem opD_eq (d : DOp) (ρ : Opd → V) (σ : Sto) (n0 lk : Nat) (Q : V → Sto → Prop) :
    opD T C d ρ σ n0 lk Q = opW T C false ρ (d.view n0 σ) (d.lab n0) (d.lok n0 lk) d.o.op fun v σo n' => n' ≤ d.top n0 ∧ Q v (d.fin n0 σ σo) := rfl

def stepD (T : Tab) (C : Calls') (n0 : Nat) (d : DOp) (s : St) (K : St → Prop) : Prop :=
  if wants d.o.guard s.env then opD T C d s.val s.σ n0 s.lk fun v σ' => K ({ s with σ := σ' }.put d.o.dst v) else K (s.put d.o.dst .undef)

theorem wpD_cons (n0 : Nat) (d : DOp) (ds : List DOp) (s : St) (Q : St → Prop) : wpD T C n0 (d :: ds) s Q = stepD T C n0 d s (fun s' => wpD T C n0 ds s' Q) := rfl

/-- Which operations' ranges are apart. -/
def Sep (d e : DOp) : Prop := pairOk d e = true ∧ d.rank + (if d.lays then 1 else 0) ≤ e.rank

theorem lowOk_spec {a b : DOp} (h : lowOk a b = true) (ha : a.calm = true) (hb : b.calm = true) : ∀ r, a.lo ≤ r → r < a.rank → r ∈ a.hid ∨ r ∈ b.hid := by
  intro r h1 h2
  unfold lowOk at h
  rw [ha, hb] at h
  simp only [Bool.and_self, Bool.not_true, Bool.false_or, List.all_eq_true, List.mem_range, Bool.or_eq_true, decide_eq_true_eq, List.contains_iff_mem] at h
  rcases h r h2 with (h | h) | h
  · omega
  · exact .inl h
  · exact .inr h

theorem pairOk_spec {a b : DOp} (h : pairOk a b = true) : (∀ t, a.o.dst = some t → t ∉ b.o.reads) ∧ (∀ t, b.o.dst = some t → t ∉ a.o.reads) ∧ (∀ t, a.o.dst = some t → b.o.dst ≠ some t) ∧
    (a.wr = true → b.pure = true) ∧ (b.wr = true → a.pure = true) ∧ ((b.calm = true → a.lays = true → a.rank ∈ b.hid) ∧ (a.calm = true → b.calm = true → ∀ r, a.lo ≤ r → r < a.rank → r ∈ a.hid ∨ r ∈ b.hid)) ∧
    ((a.calm = true → b.lays = true → b.rank ∈ a.hid) ∧ (b.calm = true → a.calm = true → ∀ r, b.lo ≤ r → r < b.rank → r ∈ b.hid ∨ r ∈ a.hid)) := by
  simp only [pairOk, Bool.and_eq_true, Bool.not_eq_true', Bool.or_eq_true, Bool.not_eq_true, List.contains_iff_mem] at h
  obtain ⟨⟨⟨⟨⟨⟨⟨⟨h1, h2⟩, h3⟩, h4⟩, h5⟩, h6⟩, h7⟩, h8⟩, h9⟩ := h
  refine ⟨fun t ht hm => ?_, fun t ht hm => ?_, fun t ht hb => ?_, fun hw => ?_, fun hw => ?_, ⟨fun hc hl => ?_, fun ha hb => lowOk_spec h8 ha hb⟩, ⟨fun hc hl => ?_, fun hb ha => lowOk_spec h9 hb ha⟩⟩
  · rw [ht] at h1; simp [meets, hm] at h1
  · rw [ht] at h2; simp [meets, hm] at h2
  · rw [ht, hb] at h3; simp [meets] at h3
  · rcases h4 with h | h
    · rw [hw] at h; cases h
    · exact h
  · rcases h5 with h | h
    · rw [hw] at h; cases h
    · exact h
  · rcases h6 with h | h
    · rw [hc, hl] at h; cases h
    · simpa using h
  · rcases h7 with h | h
    · rw [hc, hl] at h; cases h
    · simpa using h

/-- What one does is not seen by the other one. -/
def Blind (d e : DOp) : Prop := (e.calm = true → d.lays = true → d.rank ∈ e.hid) ∧ (d.calm = true → e.calm = true → ∀ r, d.lo ≤ r → r < d.rank → r ∈ d.hid ∨ r ∈ e.hid)

theorem calm_of {d : DOp} (h1 : d.pure = false) (h2 : d.wr = false) : d.calm = true := by simp [DOp.calm, h1, h2]

theorem view_fin {d e : DOp} (h1 : d.wr = true → e.pure = true) (h2 : e.wr = true → d.pure = true) (h3 : Blind d e) (n0 : Nat) (σ σd : Sto) :
    e.view n0 (d.fin n0 σ σd) = e.view n0 σ := by
  cases hp : e.pure with
  | true => simp [DOp.view, hp]
  | false =>
    cases hdp : d.pure with
    | true => simp [DOp.fin, hdp]
    | false =>
      cases hw : e.wr with
      | true => rw [h2 hw] at hdp; cases hdp
      | false =>
        cases hdw : d.wr with
        | true => rw [h1 hdw] at hp; cases hp
        | false =>
          have hc := calm_of hdp hdw
          have hce := calm_of hp hw
          have key : ∀ id, ¬ inHid n0 e.hid id → d.fin n0 σ σd id = σ id := fun id hn => by
            rcases fin_calm hc n0 σ σd id with ⟨h, _⟩ | ⟨_, h⟩
            · exact absurd (W_hid (h3.1 hce) (h3.2 hc hce) h) hn
            · exact h
          unfold DOp.view
          simp only [hp, hw, Bool.false_eq_true, if_false]
          funext id
          cases hh : e.hid with
          | nil => exact key id (by rw [hh]; rintro ⟨_, h, _⟩; cases h)
          | cons r rs =>
            simp only [hide]
            split
            · rw [hideR_eq, hideR_eq, ← hh]
              split
              · rfl
              · rename_i hn; exact key id hn
            · rfl

theorem W_apart {d e : DOp} {n0 id : Nat} (h3 : Blind d e) (h4 : Blind e d) (hr : d.rank + (if d.lays then 1 else 0) ≤ e.rank) (hd : d.W n0 id) (he : e.W n0 id) : False := by
  have hdc := hd.1
  have hec := he.1
  have k1 := W_hid (h3.1 hec) (h3.2 hdc hec) hd
  have k2 := W_hid (h4.1 hdc) (h4.2 hec hdc) he
  obtain ⟨-, hd⟩ := hd
  obtain ⟨-, he⟩ := he
  cases hl : d.low with
  | some lo => rw [hl] at hd; exact hd.2.2 k2
  | none =>
    cases hl' : e.low with
    | some lo => rw [hl'] at he; exact he.2.2 k1
    | none =>
      rw [hl] at hd; rw [hl'] at he
      rw [hd.1] at hr
      simp only [if_true] at hr
      have := Nat.mul_le_mul_left BIG hr
      rw [Nat.mul_add, Nat.mul_one] at this
      obtain ⟨-, a1, a2⟩ := hd
      obtain ⟨-, b1, b2⟩ := he
      unfold DOp.lab at *
      omega

theorem fin_fin {d e : DOp} (h1 : d.wr = true → e.pure = true) (h2 : e.wr = true → d.pure = true) (h3 : d.rank + (if d.lays then 1 else 0) ≤ e.rank) (h4 : Blind d e) (h5 : Blind e d) (n0 : Nat) (σ σd σe : Sto) :
    d.fin n0 (e.fin n0 σ σe) σd = e.fin n0 (d.fin n0 σ σd) σe := by
  cases hp : e.pure with
  | true => simp [DOp.fin, hp]
  | false =>
    cases hdp : d.pure with
    | true => simp [DOp.fin, hdp]
    | false =>
      cases hw : e.wr with
      | true => rw [h2 hw] at hdp; cases hdp
      | false =>
        cases hdw : d.wr with
        | true => rw [h1 hdw] at hp; cases hp
        | false =>
          have hc := calm_of hdp hdw
          have hce := calm_of hp hw
          funext id
          rcases fin_calm hc n0 (e.fin n0 σ σe) σd id with ⟨a, ha⟩ | ⟨a, ha⟩ <;> rcases fin_calm hce n0 (d.fin n0 σ σd) σe id with ⟨b, hb⟩ | ⟨b, hb⟩ <;> rw [ha, hb]
          · exact (W_apart h4 h5 h3 a b).elim
          · rcases fin_calm hc n0 σ σd id with ⟨_, h⟩ | ⟨h, _⟩
            · exact h.symm
            · exact absurd a h
          · rcases fin_calm hce n0 σ σe id with ⟨_, h⟩ | ⟨h, _⟩
            · exact h
            · exact absurd b h
          · rcases fin_calm hce n0 σ σe id with ⟨h, _⟩ | ⟨_, h⟩
            · exact absurd h b
            · rw [h]
              rcases fin_calm hc n0 σ σd id with ⟨h', _⟩ | ⟨_, h'⟩
              · exact absurd h' a
              · exact h'.symm

theorem val_put {s : St} {σ' : Sto} {dst : Option Nat} {v : V} {x : Opd} (h : ∀ t, dst = some t → x ≠ .tmp t) : (({ s with σ := σ' } : St).put dst v).val x = s.val x := by
  cases x with
  | con c => cases dst <;> rfl
  | tmp t =>
    cases dst with
    | none => rfl
    | some d =>
      have hne : t ≠ d := fun e => h d rfl (by rw [e])
      simp [St.put, St.val, hne]

theorem wants_put {s : St} {σ' : Sto} {dst : Option Nat} {v : V} {g : Option (Nat × Bool)} (h : ∀ t, dst = some t → ∀ b, g ≠ some (t, b)) :
    wants g (({ s with σ := σ' } : St).put dst v).env = wants g s.env := by
  cases g with
  | none => rfl
  | some p =>
    obtain ⟨t, b⟩ := p
    cases dst with
    | none => rfl
    | some d =>
      have hne : t ≠ d := fun e => h d rfl b (by rw [e])
      simp [wants, St.put, hne]

theorem reads_opd {o : AOp} {t : Nat} (h : t ∉ o.reads) : (∀ x ∈ o.op.opds, x ≠ .tmp t) ∧ ∀ b, o.guard ≠ some (t, b) := by
  simp only [AOp.reads, List.mem_append, not_or] at h
  refine ⟨fun x hx e => h.1 ?_, fun b e => h.2 (by rw [e]; simp)⟩
  rw [List.mem_filterMap]
  exact ⟨x, hx, by rw [e]⟩

/-- What a step in a drawn region comes to: nothing, or an outcome. -/
def Outc (T : Tab) (C : Calls') (n0 : Nat) (d : DOp) (s : St) (v : V) (g : Sto → Sto) : Prop :=
  (wants d.o.guard s.env = false ∧ v = .undef ∧ g = fun σ => σ) ∨
  (wants d.o.guard s.env = true ∧ ∃ σo n', (g = fun σ => d.fin n0 σ σo) ∧ n' ≤ d.top n0 ∧
    ∀ Q' : V → Sto → Nat → Prop, Q' v σo n' → opW T C false s.val (d.view n0 s.σ) (d.lab n0) (d.lok n0 s.lk) d.o.op Q')

theorem stepD_iff {n0 : Nat} {d : DOp} {s : St} {K : St → Prop} : stepD T C n0 d s K ↔ ∃ v g, Outc T C n0 d s v g ∧ K ({ s with σ := g s.σ }.put d.o.dst v) := by
  unfold stepD
  constructor
  · intro h
    split at h <;> rename_i hw
    · rw [opD_eq] at h
      obtain ⟨v, σo, n', ⟨h1, h2⟩, h3⟩ := opW_out h
      exact ⟨v, _, .inr ⟨hw, σo, n', rfl, h1, h3⟩, h2⟩
    · exact ⟨.undef, _, .inl ⟨by simpa using hw, rfl, rfl⟩, h⟩
  · rintro ⟨v, g, ⟨hw, rfl, rfl⟩ | ⟨hw, σo, n', rfl, h1, h3⟩, h⟩
    · simpa [hw] using h
    · rw [if_pos hw, opD_eq]; exact h3 _ ⟨h1, h⟩

theorem put_comm {s : St} {σ1 σ2 : Sto} {d e : Option Nat} {v u : V} (h : ∀ t, d = some t → e ≠ some t) :
    ({ ({ s with σ := σ1 } : St).put d v with σ := σ2 } : St).put e u = (({ s with σ := σ2 } : St).put e u).put d v := by
  cases d with
  | none => cases e <;> rfl
  | some d =>
    cases e with
    | none => rfl
    | some e =>
      have hne : d ≠ e := fun hh => h d rfl (by rw [hh])
      simp only [St.put, St.mk.injEq, and_self, and_true]
      funext t
      split
      · rename_i he; subst he; rw [if_neg (Ne.symm hne)]
      · rfl

theorem put_sig {s : St} {σ1 : Sto} {d : Option Nat} {v : V} : (({ s with σ := σ1 } : St).put d v).σ = σ1 := by cases d <;> rfl
theorem put_lk {s : St} {d : Option Nat} {v : V} : (s.put d v).lk = s.lk := by cases d <;> rfl
theorem put_n {s : St} {d : Option Nat} {v : V} : (s.put d v).n = s.n := by cases d <;> rfl

/-- An effect of an operation's. -/
def Eff (d : DOp) (n0 : Nat) (g : Sto → Sto) : Prop := (g = fun σ => σ) ∨ ∃ σo, g = fun σ => d.fin n0 σ σo

theorem Outc.eff {n0 : Nat} {d : DOp} {s : St} {v : V} {g : Sto → Sto} (h : Outc T C n0 d s v g) : Eff d n0 g := by
  rcases h with ⟨-, -, h⟩ | ⟨-, σo, _, h, -⟩
  · exact .inl h
  · exact .inr ⟨σo, h⟩

/-- An operation's outcome hangs on nothing that the other one does. -/
theorem outc_iff {n0 : Nat} {d e : DOp} (p1 : ∀ t, d.o.dst = some t → t ∉ e.o.reads) (p4 : d.wr = true → e.pure = true) (p5 : e.wr = true → d.pure = true)
    (p6 : Blind d e) {s : St} {v u : V} {g g' : Sto → Sto} (hg : Eff d n0 g) :
    Outc T C n0 e (({ s with σ := g s.σ } : St).put d.o.dst v) u g' ↔ Outc T C n0 e s u g' := by
  have re : ∀ t, d.o.dst = some t → (∀ x ∈ e.o.op.opds, x ≠ .tmp t) ∧ ∀ b, e.o.guard ≠ some (t, b) := fun t ht => reads_opd (p1 t ht)
  have hview : e.view n0 (g s.σ) = e.view n0 s.σ := by
    rcases hg with rfl | ⟨σd, rfl⟩
    · rfl
    · exact view_fin p4 p5 p6 n0 s.σ σd
  have hwant : wants e.o.guard (({ s with σ := g s.σ } : St).put d.o.dst v).env = wants e.o.guard s.env := wants_put (fun t ht => (re t ht).2)
  have hop : ∀ Q : V → Sto → Nat → Prop, opW T C false (({ s with σ := g s.σ } : St).put d.o.dst v).val (e.view n0 (({ s with σ := g s.σ } : St).put d.o.dst v).σ) (e.lab n0)
      (e.lok n0 (({ s with σ := g s.σ } : St).put d.o.dst v).lk) e.o.op Q ↔ opW T C false s.val (e.view n0 s.σ) (e.lab n0) (e.lok n0 s.lk) e.o.op Q := by
    intro Q
    rw [put_sig, hview, put_lk]
    exact ⟨opW_congr (fun x hx => val_put (fun t ht => (re t ht).1 x hx)), opW_congr (fun x hx => (val_put (fun t ht => (re t ht).1 x hx)).symm)⟩
  unfold Outc
  simp only [hwant, hop]

/-- Two that may come in either order. -/
theorem swap2 {n0 : Nat} {d e : DOp} (hs : Sep d e) {s : St} {K : St → Prop} (h : stepD T C n0 d s (fun s1 => stepD T C n0 e s1 K)) :
    stepD T C n0 e s (fun s1 => stepD T C n0 d s1 K) := by
  obtain ⟨p1, p2, p3, p4, p5, p6, p7⟩ := pairOk_spec hs.1
  obtain ⟨v, g, hd, h⟩ := stepD_iff.1 h
  obtain ⟨u, g', he, h⟩ := stepD_iff.1 h
  have he0 := (outc_iff p1 p4 p5 p6 hd.eff).1 he
  refine stepD_iff.2 ⟨u, g', he0, stepD_iff.2 ⟨v, g, (outc_iff p2 p5 p4 p7 he0.eff).2 hd, ?_⟩⟩
  have hc : g (g' s.σ) = g' (g s.σ) := by
    rcases hd.eff with rfl | ⟨σd, rfl⟩ <;> rcases he0.eff with rfl | ⟨σe, rfl⟩ <;> try rfl
    exact fin_fin p4 p5 hs.2 p6 p7 n0 s.σ σd σe
  rw [put_sig] at h ⊢
  rw [put_comm p3] at h
  rw [hc]
  have : ({ ({ s with σ := g' s.σ } : St).put e.o.dst u with σ := g' (g s.σ) } : St) = ({ s with σ := g' (g s.σ) } : St).put e.o.dst u := by cases e.o.dst <;> rfl
  rw [this]
  exact h

theorem stepD_mono (hm : MonoC C) {n0 : Nat} {d : DOp} {s : St} {K K' : St → Prop} (hk : ∀ s, K s → K' s) (h : stepD T C n0 d s K) : stepD T C n0 d s K' := by
  obtain ⟨v, g, h1, h2⟩ := stepD_iff.1 h
  exact stepD_iff.2 ⟨v, g, h1, hk _ h2⟩

/-- One that may come ahead of all that stand ahead of it. -/
theorem swapL (hm : MonoC C) {n0 : Nat} {e : DOp} {Q : St → Prop} : ∀ (l1 l2 : List DOp) (s : St), (∀ d ∈ l1, Sep d e) → wpD T C n0 (l1 ++ e :: l2) s Q → wpD T C n0 (e :: (l1 ++ l2)) s Q
  | [], l2, s, _, h => h
  | d :: l1, l2, s, hs, h => by
    simp only [List.cons_append, wpD_cons] at h ⊢
    refine swap2 (hs d (by simp)) (stepD_mono hm (fun s1 h1 => ?_) h)
    have := swapL hm l1 l2 s1 (fun d' hd' => hs d' (List.mem_cons_of_mem _ hd')) h1
    rwa [wpD_cons] at this

end
end Go.Q
end

section
/- Which objects values speak of: an operation speaks of no others than its operands, its store, and what it lays. -/
set_option linter.unusedSimpArgs false
set_option linter.unusedVariables false
set_option linter.unusedSectionVars false
namespace Go.Q
variable [Link]

inductive Ok : (Nat → Prop) → V → Prop
  | int {K : Nat → Prop} (k : IntKind) (m : Int) : Ok K (.int k m)
  | bool {K : Nat → Prop} (b : Bool) : Ok K (.bool b)
  | str {K : Nat → Prop} (s : ByteArray) : Ok K (.str s)
  | nilS {K : Nat → Prop} : Ok K .nilS
  | sl {K : Nat → Prop} (sz : Nat) (xs : List V) (h : ∀ (i : Nat) (x : V), xs[i]? = some x → Ok (fun _ => False) x) : Ok K (.sl sz xs)
  | ref {K : Nat → Prop} (id off len sz : Nat) (h : K id) : Ok K (.ref id off len sz)
  | agg {K : Nat → Prop} (cs : List V) (h : ∀ (i : Nat) (e : V), cs[i]? = some e → Ok K e) : Ok K (.agg cs)
  | tup {K : Nat → Prop} (cs : List V) (h : ∀ (i : Nat) (e : V), cs[i]? = some e → Ok K e) : Ok K (.tup cs)
  | nilP {K : Nat → Prop} : Ok K .nilP
  | ptr {K : Nat → Prop} (id sz i j : Nat) (h : K id) : Ok K (.ptr id sz i j)
  | box {K : Nat → Prop} (cs : List V) (h : ∀ (i : Nat) (e : V), cs[i]? = some e → Ok (fun _ => False) e) : Ok K (.box cs)
  | fn {K : Nat → Prop} (f : Nat) (cs : List V) (h : ∀ (i : Nat) (e : V), cs[i]? = some e → Ok K e) : Ok K (.fn f cs)
  | bnd {K : Nat → Prop} (f : Nat) (cs : List V) (h : ∀ (i : Nat) (e : V), cs[i]? = some e → Ok K e) : Ok K (.bnd f cs)
  | yld {K : Nat → Prop} (l : Nat) (h : K l) : Ok K (.yld l)
  | nilF {K : Nat → Prop} : Ok K .nilF
  | iface {K : Nat → Prop} (t : Nat) (x : V) (h : Ok K x) : Ok K (.iface t x)
  | nilI {K : Nat → Prop} : Ok K .nilI
  | undef {K : Nat → Prop} : Ok K .undef

section
variable {K K' : Nat → Prop}

theorem Ok.mono (hk : ∀ id, K id → K' id) {v : V} (h : Ok K v) : Ok K' v := by
  induction h generalizing K' with
  | int k m => exact .int k m
  | bool b => exact .bool b
  | str s => exact .str s
  | nilS => exact .nilS
  | sl sz xs h ih => exact .sl sz xs h
  | ref id off len sz h => exact .ref id off len sz (hk id h)
  | agg cs h ih => exact .agg cs (fun i e he => ih i e he hk)
  | tup cs h ih => exact .tup cs (fun i e he => ih i e he hk)
  | nilP => exact .nilP
  | ptr id sz i j h => exact .ptr id sz i j (hk id h)
  | box cs h ih => exact .box cs h
  | fn f cs h ih => exact .fn f cs (fun i e he => ih i e he hk)
  | bnd f cs h ih => exact .bnd f cs (fun i e he => ih i e he hk)
  | yld l h => exact .yld l (hk l h)
  | nilF => exact .nilF
  | iface t x h ih => exact .iface t x (ih hk)
  | nilI => exact .nilI
  | undef => exact .undef

theorem Ok.none {v : V} (h : Ok (fun _ => False) v) : Ok K v := h.mono (fun _ h => h.elim)

theorem ok_of_cells {v : V} (h : ∀ (j : Nat) (e : V), v.cells[j]? = some e → Ok K e) : Ok K v := by
  by_cases ha : ∃ cs, v = .agg cs
  · obtain ⟨cs, rfl⟩ := ha
    exact .agg cs h
  · have hc : v.cells = [v] := not_agg_cells (fun cs e => ha ⟨cs, e⟩)
    exact h 0 v (by rw [hc]; rfl)

theorem Ok.cells {v : V} (h : Ok K v) : ∀ (j : Nat) (e : V), v.cells[j]? = some e → Ok K e := by
  cases v <;> simp only [V.cells] <;> intro j e he <;> try (cases j with
    | zero => simp at he; subst he; exact h
    | succ j => simp at he)
  cases h with
  | agg _ h => exact h j e he

/-- What the store's objects speak of. -/
def OkS (K : Nat → Prop) (σ : Sto) : Prop :=
  (∀ id sz xs, σ id = some (.row sz xs) → ∀ (i : Nat) (x : V), xs[i]? = some x → Ok K x) ∧
  (∀ id env ps a b st pend, σ id = some (.loop env ps a b st pend) → ∀ t, Ok K (env t))

theorem OkS.mono (hk : ∀ id, K id → K' id) {σ : Sto} (h : OkS K σ) : OkS K' σ :=
  ⟨fun id sz xs hs i x hx => (h.1 id sz xs hs i x hx).mono hk, fun id env ps a b st pend hs t => (h.2 id env ps a b st pend hs t).mono hk⟩

def More (K : Nat → Prop) (n n' : Nat) : Nat → Prop := fun id => K id ∨ (n ≤ id ∧ id < n')

theorem more_sub {n n' : Nat} : ∀ id, K id → More K n n' id := fun _ h => .inl h

theorem OkS.upd_row {σ : Sto} (h : OkS K σ) {id sz : Nat} {xs : List V} (hx : ∀ (i : Nat) (x : V), xs[i]? = some x → Ok K x) : OkS K (upd σ id (some (.row sz xs))) := by
  refine ⟨fun id' sz' ys hs => ?_, fun id' env ps a b st pend hs => ?_⟩
  · by_cases e : id' = id
    · subst e
      simp only [upd, if_true, Option.some.injEq, Ob.row.injEq] at hs
      obtain ⟨rfl, rfl⟩ := hs
      exact hx
    · simp only [upd, e, if_false] at hs; exact h.1 id' sz' ys hs
  · by_cases e : id' = id
    · subst e; simp [upd] at hs
    · simp only [upd, e, if_false] at hs; exact h.2 id' env ps a b st pend hs

theorem OkS.upd_none {σ : Sto} (h : OkS K σ) {id : Nat} : OkS K (upd σ id none) := by
  refine ⟨fun id' sz' ys hs => ?_, fun id' env ps a b st pend hs => ?_⟩
  · by_cases e : id' = id
    · subst e; simp [upd] at hs
    · simp only [upd, e, if_false] at hs; exact h.1 id' sz' ys hs
  · by_cases e : id' = id
    · subst e; simp [upd] at hs
    · simp only [upd, e, if_false] at hs; exact h.2 id' env ps a b st pend hs

theorem OkS.drop {σ : Sto} (h : OkS K σ) (D : List Nat) : OkS K (dropL σ D) := by
  refine ⟨fun id' sz' ys hs => ?_, fun id' env ps a b st pend hs => ?_⟩ <;> unfold dropL at hs <;> split at hs <;> first | cases hs | skip
  · exact h.1 id' sz' ys hs
  · exact h.2 id' env ps a b st pend hs

theorem ok_loadC {b : Bool} {s : Nat} {cs : List V} {v : V} (hc : ∀ (j : Nat) (e : V), cs[j]? = some e → Ok K e) (h : loadC b s cs = some v) : Ok K v := by
  unfold loadC at h
  split at h
  · split at h
    · simp only [Option.some.injEq] at h; subst h
      refine .agg _ (fun i e he => ?_)
      rw [List.getElem?_take] at he
      split at he
      · exact hc i e he
      · cases he
    · cases h
  · rw [List.head?_eq_getElem?] at h
    exact hc 0 v h

theorem ok_drop {cs : List V} {k : Nat} (hc : ∀ (j : Nat) (e : V), cs[j]? = some e → Ok K e) : ∀ (j : Nat) (e : V), (cs.drop k)[j]? = some e → Ok K e := fun j e he => by
  rw [List.getElem?_drop] at he; exact hc _ e he

theorem ok_take {cs : List V} {k : Nat} (hc : ∀ (j : Nat) (e : V), cs[j]? = some e → Ok K e) : ∀ (j : Nat) (e : V), (cs.take k)[j]? = some e → Ok K e := fun j e he => by
  rw [List.getElem?_take] at he
  split at he
  · exact hc _ e he
  · cases he

theorem ok_append {cs ds : List V} (hc : ∀ (j : Nat) (e : V), cs[j]? = some e → Ok K e) (hd : ∀ (j : Nat) (e : V), ds[j]? = some e → Ok K e) :
    ∀ (j : Nat) (e : V), (cs ++ ds)[j]? = some e → Ok K e := fun j e he => by
  rw [List.getElem?_append] at he
  split at he
  · exact hc _ e he
  · exact hd _ e he

theorem ok_mem {cs : List V} : (∀ (j : Nat) (e : V), cs[j]? = some e → Ok K e) ↔ ∀ e ∈ cs, Ok K e :=
  ⟨fun h e he => let ⟨i, hi, e'⟩ := List.getElem_of_mem he; h i e (by rw [List.getElem?_eq_getElem hi, e']), fun h j e he => h e (List.mem_of_getElem? he)⟩

theorem ok_pureV {s : Sem Value} {v : V} (h : pureV s = some v) : Ok K v := by
  unfold pureV at h
  split at h <;> simp at h <;> subst h <;> constructor

theorem ok_binV {op : BinOp} {x y v : V} (h : binV op x y = some v) : Ok K v := by
  unfold binV at h
  split at h <;> first | exact ok_pureV h | cases h

theorem ok_unV {op : UnOp} {x v : V} (h : unV op x = some v) : Ok K v := by
  unfold unV at h
  split at h <;> first | exact ok_pureV h | cases h

theorem ok_foldlM {f : V → V → Option V} (hf : ∀ a b c, f a b = some c → Ok K c) : ∀ (l : List V) (x v : V), Ok K x → l.foldlM f x = some v → Ok K v
  | [], x, v, hx, h => by simp at h; subst h; exact hx
  | y :: l, x, v, hx, h => by
    simp only [List.foldlM_cons, Option.bind_eq_bind, Option.bind_eq_some_iff] at h
    obtain ⟨z, hz, h⟩ := h
    exact ok_foldlM hf l z v (hf _ _ _ hz) h

theorem ok_parts {ρ : Opd → V} : ∀ (ps : List (Nat × Nat × Opd)) (z cs : List V), (∀ p ∈ ps, Ok K (ρ p.2.2)) → (∀ (j : Nat) (e : V), z[j]? = some e → Ok K e) → partsOf ρ z ps = some cs →
    ∀ (j : Nat) (e : V), cs[j]? = some e → Ok K e
  | [], z, cs, _, hz, h => by simp [partsOf] at h; subst h; exact hz
  | (off, size, x) :: ps, z, cs, hp, hz, h => by
    simp only [partsOf] at h
    split at h
    · exact ok_parts ps _ cs (fun p hp' => hp p (List.mem_cons_of_mem _ hp')) (ok_append (ok_append (ok_take hz) (Ok.cells (hp (off, size, x) (by simp)))) (ok_drop hz)) h
    · cases h

theorem ok_elems {σ : Sto} (hs : OkS K σ) {sz : Nat} {v : V} {xs : List V} (hv : Ok K v) (h : elems σ sz v = some xs) : ∀ (j : Nat) (e : V), xs[j]? = some e → Ok K e := by
  unfold elems at h
  split at h
  · simp at h; subst h; simp
  · split at h
    · simp only [Option.some.injEq] at h; subst h
      cases hv with
      | sl _ _ hv => exact fun j e he => (hv j e he).none
    · cases h
  · split at h
    · rename_i hrow
      split at h
      · simp only [Option.some.injEq] at h; subst h
        exact ok_take (ok_drop (fun j e he => hs.1 _ _ _ hrow j e he))
      · cases h
    · cases h
  · cases h

end

section
variable {w w' : World} {X X' : Nat → Prop} {ι ι' : Nat → Nat} {n n' : Nat} {K : Nat → Prop}

/-- What stands speaks only of what is laid. -/
theorem rep_ok {v : V} {u : Value} (h : Rep w X ι n v u) : Ok (fun id => id < n ∧ ι id < w.heap.size) v := by
  induction h with
  | int k m => exact .int k m
  | bool b => exact .bool b
  | str s => exact .str s
  | nilS => exact .nilS
  | sl sz xs b o c u hc hX hb hs hm hr ih =>
    refine .sl sz xs (fun i x hx => ok_of_cells (fun j e he => (ih i x j e hx he).mono (fun id h => by omega)))
  | slE sz c a => exact .sl sz [] (fun i x hx => by simp at hx)
  | ref id off len sz c o cells ty fz hid hc ho hm hz => exact .ref id off len sz ⟨hid, (Array.getElem?_eq_some_iff.1 hm).1⟩
  | agg cs us hl hr ih =>
    refine .agg cs (fun i e he => ?_)
    have hi : i < us.size := by have := (List.getElem?_eq_some_iff.1 he).1; omega
    exact ih i e _ he (Array.getElem?_eq_getElem hi)
  | tup cs us hl hr ih =>
    refine .tup cs (fun i e he => ?_)
    have hi : i < us.size := by have := (List.getElem?_eq_some_iff.1 he).1; omega
    exact ih i e _ he (Array.getElem?_eq_getElem hi)
  | nilP => exact .nilP
  | ptr id sz i j hid hb => exact .ptr id sz i j ⟨hid, hb⟩
  | box cs b o u hX hb h1 hm hr ih => exact .box cs (fun j e he => (ih j e he).mono (fun id h => by omega))
  | fn f cs us hl hr ih =>
    refine .fn f cs (fun i e he => ?_)
    have hi : i < us.size := by have := (List.getElem?_eq_some_iff.1 he).1; omega
    exact ih i e _ he (Array.getElem?_eq_getElem hi)
  | bnd f cs us hl hr ih =>
    refine .bnd f cs (fun i e he => ?_)
    have hi : i < us.size := by have := (List.getElem?_eq_some_iff.1 he).1; omega
    exact ih i e _ he (Array.getElem?_eq_getElem hi)
  | yld l hid hb => exact .yld l ⟨hid, hb⟩
  | nilF => exact .nilF
  | iface t x u hr ih => exact .iface t x ih
  | nilI => exact .nilI
  | undef => exact .undef

/-- The numbers of objects may stand for other blocks where a value does not speak of them. -/
theorem Rep.on {v : V} {u : Value} (h : Rep w X ι n v u) (hk : Ok K v) (hι : ∀ id, K id → ι' id = ι id) (hn : ∀ id, K id → id < n') : Rep w X ι' n' v u := by
  induction h with
  | int k m => exact .int k m
  | bool b => exact .bool b
  | str s => exact .str s
  | nilS => exact .nilS
  | sl sz xs b o c u hc hX hb hs hm hr ih => exact .sl sz xs b o c u hc hX hb hs hm (fun i x j e hx he => (hr i x j e hx he).up)
  | slE sz c a => exact .slE sz c a
  | ref id off len sz c o cells ty fz hid hc ho hm hz =>
    cases hk with
    | ref _ _ _ _ hk =>
      rw [← hι id hk] at *
      exact .ref id off len sz c o cells ty fz (hn id hk) hc ho hm hz
  | agg cs us hl hr ih => cases hk with | agg _ hk => exact .agg cs us hl (fun i e u he hu => ih i e u he hu (hk i e he))
  | tup cs us hl hr ih => cases hk with | tup _ hk => exact .tup cs us hl (fun i e u he hu => ih i e u he hu (hk i e he))
  | nilP => exact .nilP
  | ptr id sz i j hid hb =>
    cases hk with
    | ptr _ _ _ _ hk => rw [← hι id hk] at *; exact .ptr id sz i j (hn id hk) hb
  | box cs b o u hX hb h1 hm hr ih => exact .box cs b o u hX hb h1 hm (fun j e he => (hr j e he).up)
  | fn f cs us hl hr ih => cases hk with | fn _ _ hk => exact .fn f cs us hl (fun i e u he hu => ih i e u he hu (hk i e he))
  | bnd f cs us hl hr ih => cases hk with | bnd _ _ hk => exact .bnd f cs us hl (fun i e u he hu => ih i e u he hu (hk i e he))
  | yld l hid hb =>
    cases hk with
    | yld _ hk => rw [← hι l hk] at *; exact .yld l (hn l hk) hb
  | nilF => exact .nilF
  | iface t x u hr ih => cases hk with | iface _ _ hk => exact .iface t x u (ih hk)
  | nilI => exact .nilI
  | undef => exact .undef

end
end Go.Q
end

section
/- An operation speaks of no objects but those of its operands and store, and those that it lays. -/
set_option linter.unusedSimpArgs false
set_option linter.unusedVariables false
set_option linter.unusedSectionVars false
namespace Go.Q
variable [Link]

/-- The zero values that an operation holds. -/
def AI.zeros : AI → List V
  | .alloc e => [e]
  | .build z _ => z
  | .mksl _ _ e _ => [e]
  | .tas _ _ z _ => [z]
  | _ => []

section
variable {K : Nat → Prop} {ρ : Opd → V} {σ σ' : Sto} {n n' lk : Nat}

/-- No objects but old ones and new ones. -/
def Dom (σ σ' : Sto) (n n' : Nat) : Prop := ∀ id, σ' id ≠ none → σ id ≠ none ∨ (n ≤ id ∧ id < n')

theorem Dom.refl : Dom σ σ n n' := fun _ h => .inl h

theorem dom_upd {id : Nat} {o : Ob} (h : σ id ≠ none) : Dom σ (upd σ id (some o)) n n' := fun id' hh => by
  by_cases e : id' = id
  · exact .inl (e ▸ h)
  · left; simpa [upd, e] using hh

theorem dom_new {o : Ob} : Dom σ (upd σ n (some o)) n (n + 1) := fun id' hh => by
  by_cases e : id' = n
  · right; omega
  · left; simpa [upd, e] using hh

theorem dom_mov {id : Nat} {o : Ob} : Dom σ (upd (upd σ id none) n (some o)) n (n + 1) := fun id' hh => by
  by_cases e : id' = n
  · right; omega
  · left
    by_cases e' : id' = id
    · subst e'
      exfalso
      apply hh
      simp [upd, e]
    · simpa [upd, e, e'] using hh

def Fin (K : Nat → Prop) (σ : Sto) (n : Nat) (r : Option (V × Sto × Nat)) : Prop := ∀ v σ' n', r = some (v, σ', n') → Ok (More K n n') v ∧ OkS (More K n n') σ' ∧ Dom σ σ' n n'

theorem fin_same (hs : OkS K σ) {o : Option V} (h : ∀ v, o = some v → Ok K v) : Fin K σ n (o.map fun v => (v, σ, n)) := by
  intro v σ' n' he
  simp only [Option.map_eq_some_iff, Prod.mk.injEq] at he
  obtain ⟨v', h1, rfl, rfl, rfl⟩ := he
  exact ⟨(h v' h1).mono more_sub, hs.mono more_sub, Dom.refl⟩

theorem fin_one (hs : OkS K σ) {v : V} (h : Ok K v) : Fin K σ n (some (v, σ, n)) := by
  intro v' σ' n' he
  simp only [Option.some.injEq, Prod.mk.injEq] at he
  obtain ⟨rfl, rfl, rfl⟩ := he
  exact ⟨h.mono more_sub, hs.mono more_sub, Dom.refl⟩

theorem fin_none : Fin K σ n none := fun v σ' n' he => by cases he

theorem fin_new {v : V} {σ' : Sto} (h : Ok (More K n (n + 1)) v) (hs : OkS (More K n (n + 1)) σ') (hd : Dom σ σ' n (n + 1) := by first | exact dom_new | exact dom_mov) : Fin K σ n (some (v, σ', n + 1)) := by
  intro v' σ'' n' he
  simp only [Option.some.injEq, Prod.mk.injEq] at he
  obtain ⟨rfl, rfl, rfl⟩ := he
  exact ⟨h, hs, hd⟩

theorem fin_bind {α : Type} {o : Option α} {f : α → Option (V × Sto × Nat)} (h : ∀ a, o = some a → Fin K σ n (f a)) : Fin K σ n (o.bind f) := by
  intro v σ' n' he
  simp only [Option.bind_eq_some_iff] at he
  obtain ⟨a, ha, he⟩ := he
  exact h a ha v σ' n' he

theorem more_new : More K n (n + 1) n := .inr ⟨Nat.le_refl _, by omega⟩

theorem ev_ok {ai : AI} (hρ : ∀ x ∈ ai.opds, Ok K (ρ x)) (hz : ∀ e ∈ ai.zeros, Ok (fun _ => False) e) (hs : OkS K σ) : Fin K σ n (ev ρ σ n lk ai) := by
  cases ai <;> simp only [AI.opds, AI.zeros] at hρ hz <;> simp only [ev]
  case mov x => exact fin_one hs (hρ x (by simp))
  case pick c a b =>
    split
    · rename_i t _
      cases t
      · exact fin_one hs (hρ b (by simp))
      · exact fin_one hs (hρ a (by simp))
    · exact fin_none
  case alloc e =>
    refine fin_new (.ptr _ _ _ _ more_new) ((hs.mono more_sub).upd_row (fun i x hx => ?_))
    cases i with
    | zero => simp at hx; subst hx; exact (hz e (by simp)).none
    | succ i => simp at hx
  case box x =>
    split
    · refine fin_new (.ptr _ _ _ _ more_new) ((hs.mono more_sub).upd_row (fun i y hy => ?_))
      cases i with
      | zero => simp at hy; subst hy; exact (hρ x (by simp)).mono more_sub
      | succ i => simp at hy
    · exact fin_none
  case build z ps =>
    intro v σ' n' he
    simp only [Option.map_eq_some_iff, Prod.mk.injEq] at he
    obtain ⟨cs, hcs, rfl, rfl, rfl⟩ := he
    refine ⟨(Ok.agg cs (ok_parts (K := K) ps z cs (fun p hp => hρ _ (List.mem_map.2 ⟨p, hp, rfl⟩)) (fun j e he => (hz e (List.mem_of_getElem? he)).none) hcs)).mono more_sub, hs.mono more_sub, Dom.refl⟩
  case lit sz es =>
    split
    · refine fin_new (.ref _ _ _ _ more_new) ((hs.mono more_sub).upd_row (fun i y hy => ?_))
      rw [List.getElem?_map, Option.map_eq_some_iff] at hy
      obtain ⟨x, hx, rfl⟩ := hy
      exact (hρ x (List.mem_of_getElem? hx)).mono more_sub
    · exact fin_none
  case load b s x =>
    have hx := hρ x (by simp)
    generalize ρ x = y at hx
    split
    · refine fin_bind (fun e he => fin_same hs (fun v hv => ?_))
      obtain ⟨ys, hrow, hget⟩ := rowAt_spec he
      exact ok_loadC (ok_drop (Ok.cells (hs.1 _ _ _ hrow _ _ hget))) hv
    · cases hx with
      | box cs hb => exact fin_same hs (fun v hv => ok_loadC (fun j e he => (hb j e he).none) hv)
    · exact fin_none
  case store s x v =>
    have hv := hρ v (by simp)
    split
    · split
      · split
        · rename_i hrow _ _ hget
          split
          · intro v' σ' n' he
            simp only [Option.some.injEq, Prod.mk.injEq] at he
            obtain ⟨rfl, rfl, rfl⟩ := he
            refine ⟨.undef, (hs.upd_row (fun i y hy => ?_)).mono more_sub, dom_upd (by rw [hrow]; simp)⟩
            rw [List.getElem?_set] at hy
            split at hy
            · split at hy
              · simp only [Option.some.injEq] at hy; subst hy
                unfold spliceC
                split
                · refine .agg _ (ok_append (ok_append (ok_take ?_) (Ok.cells hv)) (ok_drop ?_)) <;>
                    (have := hs.1 _ _ _ hrow _ _ hget; exact Ok.cells this)
                · split
                  · rename_i c hc
                    exact Ok.cells hv 0 c (by rw [hc]; rfl)
                  · exact .agg _ (Ok.cells hv)
              · cases hy
            · exact hs.1 _ _ _ hrow i y hy
          · exact fin_none
        · exact fin_none
      · exact fin_none
    · exact fin_none
  case nilck x =>
    have hx := hρ x (by simp)
    generalize ρ x = y at hx
    split <;> first | exact fin_one hs hx | exact fin_none
  case bin op x y => exact fin_same hs (fun v hv => ok_binV hv)
  case eqB neg x y => split <;> first | exact fin_one hs (.bool _) | exact fin_none
  case eqA neg ks x y =>
    split
    · intro v σ' n' he
      simp only [Option.map_eq_some_iff, Prod.mk.injEq] at he
      obtain ⟨b, _, rfl, rfl, rfl⟩ := he
      exact ⟨.bool _, hs.mono more_sub, Dom.refl⟩
    · exact fin_none
  case eqN neg x => split <;> first | exact fin_one hs (.bool _) | exact fin_none
  case eqF neg x => split <;> first | exact fin_one hs (.bool _) | exact fin_none
  case un op x => exact fin_same hs (fun v hv => ok_unV hv)
  case conv k x => split <;> first | exact fin_one hs (.int _ _) | exact fin_none
  case mkfn f es =>
    refine fin_one hs (.fn _ _ (fun i e he => ?_))
    rw [List.getElem?_map, Option.map_eq_some_iff] at he
    obtain ⟨x, hx, rfl⟩ := he
    exact hρ x (List.mem_of_getElem? hx)
  case mkbnd f es =>
    refine fin_one hs (.bnd _ _ (fun i e he => ?_))
    rw [List.getElem?_map, Option.map_eq_some_iff] at he
    obtain ⟨x, hx, rfl⟩ := he
    exact hρ x (List.mem_of_getElem? hx)
  case mksl sz bytes e len =>
    split
    · split
      · refine fin_new (.ref _ _ _ _ more_new) ((hs.mono more_sub).upd_row (fun i y hy => ?_))
        rw [List.getElem?_replicate] at hy
        split at hy
        · simp only [Option.some.injEq] at hy; subst hy; exact (hz e (by simp)).none
        · cases hy
      · exact fin_none
    · exact fin_none
  case slice sz x lo hi =>
    have hx := hρ x (by simp)
    generalize ρ x = y at hx
    split
    · refine fin_bind (fun h _ => fin_bind (fun l _ => ?_))
      split
      · exact fin_one hs .nilS
      · exact fin_none
    · refine fin_bind (fun h _ => fin_bind (fun l _ => ?_))
      split
      · cases hx with
        | sl _ _ hx => exact fin_one hs (.sl _ _ (ok_drop (ok_take hx)))
      · exact fin_none
    · refine fin_bind (fun h _ => fin_bind (fun l _ => ?_))
      split
      · cases hx with
        | ref _ _ _ _ hx => exact fin_one hs (.ref _ _ _ _ hx)
      · exact fin_none
    · exact fin_none
  case sliceS x lo hi =>
    split
    · exact fin_bind (fun h _ => fin_bind (fun l _ => fin_one hs (.str _)))
    · exact fin_none
  case faddr x off =>
    have hx := hρ x (by simp)
    generalize ρ x = y at hx
    split
    · cases hx with
      | ptr _ _ _ _ hx => exact fin_one hs (.ptr _ _ _ _ hx)
    · cases hx with
      | box _ hx => exact fin_one hs (.box _ (ok_drop hx))
    · exact fin_none
  case fld b s off x =>
    have hx := hρ x (by simp)
    generalize ρ x = y at hx
    split
    · cases hx with
      | agg _ hx => exact fin_same hs (fun v hv => ok_loadC (ok_drop hx) hv)
    · exact fin_none
  case iaddr sz x i =>
    have hx := hρ x (by simp)
    generalize ρ x = y at hx
    split
    · split
      · intro v σ' n' he
        simp only [Option.map_eq_some_iff, Prod.mk.injEq] at he
        obtain ⟨e, hget, rfl, rfl, rfl⟩ := he
        cases hx with
        | sl _ _ hx => exact ⟨.box _ (Ok.cells (hx _ _ hget)), hs.mono more_sub, Dom.refl⟩
      · exact fin_none
    · split
      · cases hx with
        | ref _ _ _ _ hx => exact fin_one hs (.ptr _ _ _ _ hx)
      · exact fin_none
    · exact fin_none
  case iaddrA m es x i =>
    have hx := hρ x (by simp)
    generalize ρ x = y at hx
    split
    · split
      · cases hx with
        | ptr _ _ _ _ hx => exact fin_one hs (.ptr _ _ _ _ hx)
      · exact fin_none
    · split
      · cases hx with
        | box _ hx => exact fin_one hs (.box _ (ok_drop hx))
      · exact fin_none
    · exact fin_none
  case idxA b m es x i =>
    have hx := hρ x (by simp)
    generalize ρ x = y at hx
    split
    · split
      · cases hx with
        | agg _ hx => exact fin_same hs (fun v hv => ok_loadC (ok_drop hx) hv)
      · exact fin_none
    · exact fin_none
  case idxS x i =>
    split
    · split
      · intro v σ' n' he
        simp only [Option.map_eq_some_iff, Prod.mk.injEq] at he
        obtain ⟨e, hget, rfl, rfl, rfl⟩ := he
        exact ⟨.int _ _, hs.mono more_sub, Dom.refl⟩
      · exact fin_none
    · exact fin_none
  case ext x i =>
    have hx := hρ x (by simp)
    generalize ρ x = y at hx
    split
    · cases hx with
      | tup _ hx => exact fin_same hs (fun v hv => hx _ _ hv)
    · exact fin_none
  case len x =>
    intro v σ' n' he
    simp only [Option.map_eq_some_iff, Prod.mk.injEq] at he
    obtain ⟨l, _, rfl, rfl, rfl⟩ := he
    exact ⟨.int _ _, hs.mono more_sub, Dom.refl⟩
  case lenS x => split <;> first | exact fin_one hs (.int _ _) | exact fin_none
  case min es =>
    split
    · rename_i x ys hxs
      refine fin_same hs (fun v hv => ok_foldlM (fun a b c hc => ?_) ys x v ?_ hv)
      · unfold minV at hc; split at hc
        · simp only [Option.some.injEq] at hc; subst hc; exact .int _ _
        · cases hc
      · have : x ∈ es.map ρ := by rw [hxs]; simp
        obtain ⟨y, hy, rfl⟩ := List.mem_map.1 this
        exact hρ y hy
    · exact fin_none
  case max es =>
    split
    · rename_i x ys hxs
      refine fin_same hs (fun v hv => ok_foldlM (fun a b c hc => ?_) ys x v ?_ hv)
      · unfold maxV at hc; split at hc
        · simp only [Option.some.injEq] at hc; subst hc; exact .int _ _
        · cases hc
      · have : x ∈ es.map ρ := by rw [hxs]; simp
        obtain ⟨y, hy, rfl⟩ := List.mem_map.1 this
        exact hρ y hy
    · exact fin_none
  case append sz bytes x y =>
    have hy := hρ y (by simp)
    split
    · exact fin_none
    · rename_i ys hys
      have hel := ok_elems hs hy hys
      split
      · split
        · exact fin_one hs .nilS
        · split
          · exact fin_new (.ref _ _ _ _ more_new) ((hs.mono more_sub).upd_row (fun i z hz => (hel i z hz).mono more_sub))
          · exact fin_none
      · split
        · rename_i hrow
          split
          · exact fin_new (.ref _ _ _ _ more_new) (((hs.upd_none).mono more_sub).upd_row (ok_append (ok_take (fun i z hz => (hs.1 _ _ _ hrow i z hz).mono more_sub)) (fun i z hz => (hel i z hz).mono more_sub)))
          · exact fin_none
        · exact fin_none
      · exact fin_none
  case mkif t x => exact fin_one hs (.iface _ _ (hρ x (by simp)))
  case call => exact fin_none
  case callv => exact fin_none
  case inv => exact fin_none
  case tas ok t z x =>
    have hx := hρ x (by simp)
    have hz0 : Ok K z := (hz z (by simp)).none
    have hp : ∀ (y : V) (b : Bool), Ok K y → Ok K (.tup [y, .bool b]) := fun y b hy => .tup _ (fun i e he => by
      match i, he with
      | 0, he => simp at he; subst he; exact hy
      | 1, he => simp at he; subst he; exact .bool _)
    generalize ρ x = y at hx
    split
    · cases hx with
      | iface _ _ hx =>
        split
        · cases ok
          · exact fin_one hs hx
          · exact fin_one hs (hp _ _ hx)
        · split
          · exact fin_one hs (hp _ _ hz0)
          · exact fin_none
    · split
      · exact fin_one hs (hp _ _ hz0)
      · exact fin_none
    · exact fin_none
  case slice3 sz x lo hi mx =>
    have hx := hρ x (by simp)
    generalize ρ x = y at hx
    split
    · split
      · refine fin_bind (fun h _ => fin_bind (fun l _ => ?_))
        split
        · exact fin_one hs .nilS
        · exact fin_none
      · refine fin_bind (fun h _ => fin_bind (fun l _ => ?_))
        split
        · cases hx with
          | sl _ _ hx => exact fin_one hs (.sl _ _ (ok_drop (ok_take hx)))
        · exact fin_none
      · refine fin_bind (fun h _ => fin_bind (fun l _ => ?_))
        split
        · cases hx with
          | ref _ _ _ _ hx => exact fin_one hs (.ref _ _ _ _ hx)
        · exact fin_none
      · exact fin_none
    · exact fin_none

end
end Go.Q
end

section
/- A call on trees hands back no objects but new ones. -/
set_option linter.unusedSimpArgs false
set_option linter.unusedVariables false
set_option linter.unusedSectionVars false
namespace Go.Q
variable [Link]

def Thw (r : V) : Prop := ∀ (K : Nat → Prop) (σ : Sto) (n : Nat), OkS K σ → Ok (More K n (thaw σ n r).2.2) (thaw σ n r).1 ∧ OkS (More K n (thaw σ n r).2.2) (thaw σ n r).2.1 ∧ n ≤ (thaw σ n r).2.2 ∧ Dom σ (thaw σ n r).2.1 n (thaw σ n r).2.2
def ThwL (m : List V) : Prop := ∀ (K : Nat → Prop) (σ : Sto) (n : Nat), OkS K σ → (∀ (i : Nat) (e : V), (thawL σ n m).1[i]? = some e → Ok (More K n (thawL σ n m).2.2) e) ∧
  OkS (More K n (thawL σ n m).2.2) (thawL σ n m).2.1 ∧ n ≤ (thawL σ n m).2.2 ∧ Dom σ (thawL σ n m).2.1 n (thawL σ n m).2.2

theorem more_more {K : Nat → Prop} {n n' n'' : Nat} (h : n ≤ n') (h' : n' ≤ n'') : ∀ id, More (More K n n') n' n'' id → More K n n'' id := by
  intro id hh
  rcases hh with (hh | hh) | hh
  · exact .inl hh
  · exact .inr ⟨hh.1, by omega⟩
  · exact .inr ⟨by omega, hh.2⟩

theorem thwL_cons {y : V} {m : List V} (h : Thw y) (hm : ThwL m) : ThwL (y :: m) := by
  intro K σ n hs
  obtain ⟨a1, a2, a3, a4⟩ := h K σ n hs
  obtain ⟨b1, b2, b3, b4⟩ := hm _ _ (thaw σ n y).2.2 a2
  simp only [thawL]
  refine ⟨fun i e he => ?_, b2.mono (more_more a3 b3), by omega, fun id hid => ?_⟩
  rotate_left
  · rcases b4 id hid with h | h
    · rcases a4 id h with h | h
      · exact .inl h
      · exact .inr ⟨h.1, by omega⟩
    · exact .inr ⟨by omega, h.2⟩
  cases i with
  | zero =>
    simp at he; subst he
    exact a1.mono (fun id hh => by rcases hh with hh | hh; exact .inl hh; exact .inr ⟨hh.1, by omega⟩)
  | succ i => exact (b1 i e (by simpa using he)).mono (more_more a3 b3)

theorem thwL_nil : ThwL [] := fun K σ n hs => by simp [thawL]; exact ⟨hs.mono more_sub, Dom.refl⟩

theorem thw_leaf {r : V} (ht : ∀ σ n, thaw σ n r = (r, σ, n)) (h : ∀ K, Ok K r) : Thw r := fun K σ n hs => by
  rw [ht]; exact ⟨h _, hs.mono more_sub, Nat.le_refl _, Dom.refl⟩

theorem thwL_all : ∀ (l m : List V) (f : V → Option V), (∀ x y, x ∈ l → f x = some y → Thw y) → l.mapM f = some m → ThwL m
  | [], m, f, _, h => by simp at h; subst h; exact thwL_nil
  | x :: l, m, f, hf, h => by
    simp only [List.mapM_cons, Option.pure_def, Option.bind_eq_bind, Option.bind_eq_some_iff, Option.some.injEq] at h
    obtain ⟨y, hy, m', hm, rfl⟩ := h
    exact thwL_cons (hf x y (by simp) hy) (thwL_all l m' f (fun x' y' hx' => hf x' y' (List.mem_cons_of_mem _ hx')) hm)

theorem thw_agg {m : List V} (h : ThwL m) : Thw (.agg m) := fun K σ n hs => by
  obtain ⟨a1, a2, a3, a4⟩ := h K σ n hs
  simp only [thaw]
  exact ⟨.agg _ a1, a2, a3, a4⟩

section
variable {w : World} {X : Nat → Prop} {ι : Nat → Nat} {σ : Sto} {n : Nat}

theorem giv_thw {K0 : Nat → Prop} (hs : OkS K0 σ) : ∀ (k : Nat) (v r : V), giv σ k v = some r → Ok K0 v → Thw r := by
  intro k
  induction k with
  | zero => intro v r h; simp [giv] at h
  | succ k ih =>
    have ihE : ∀ x y, elemM (giv σ k) x = some y → Ok K0 x → Thw y := by
      intro x y h hx
      unfold elemM at h
      split at h
      · rename_i cs
        simp only [Option.map_eq_some_iff] at h
        obtain ⟨cs', hcs, rfl⟩ := h
        cases hx with
        | agg _ hx => exact thw_agg (thwL_all cs cs' _ (fun x y hm hy => ih x y hy (ok_mem.1 hx x hm)) hcs)
      · exact ih _ _ h hx
    intro v r h hv
    cases hv with
    | int q m => simp [giv] at h; subst h; exact thw_leaf (fun _ _ => by simp [thaw]) (fun _ => .int q m)
    | bool b => simp [giv] at h; subst h; exact thw_leaf (fun _ _ => by simp [thaw]) (fun _ => .bool b)
    | str s => simp [giv] at h; subst h; exact thw_leaf (fun _ _ => by simp [thaw]) (fun _ => .str s)
    | nilS => simp [giv] at h; subst h; exact thw_leaf (fun _ _ => by simp [thaw]) (fun _ => .nilS)
    | nilP => simp [giv] at h; subst h; exact thw_leaf (fun _ _ => by simp [thaw]) (fun _ => .nilP)
    | nilF => simp [giv] at h; subst h; exact thw_leaf (fun _ _ => by simp [thaw]) (fun _ => .nilF)
    | nilI => simp [giv] at h; subst h; exact thw_leaf (fun _ _ => by simp [thaw]) (fun _ => .nilI)
    | undef => simp [giv] at h; subst h; exact thw_leaf (fun _ _ => by simp [thaw]) (fun _ => .undef)
    | yld l h' => simp [giv] at h
    | bnd f cs h' => simp [giv] at h
    | ptr id sz i j h' => simp [giv] at h
    | sl sz xs h' => simp [giv] at h; subst h; exact thw_leaf (fun _ _ => by simp [thaw]) (fun _ => .sl sz xs h')
    | box cs h' => simp [giv] at h; subst h; exact thw_leaf (fun _ _ => by simp [thaw]) (fun _ => .box cs h')
    | fn f cs h' =>
      cases cs with
      | nil => simp [giv] at h; subst h; exact thw_leaf (fun _ _ => by simp [thaw]) (fun _ => .fn f [] (fun i e he => by simp at he))
      | cons c cs => simp [giv] at h
    | iface t x h' =>
      simp only [giv, Option.map_eq_some_iff] at h
      obtain ⟨y, hy, rfl⟩ := h
      intro K σ' n' hs'
      obtain ⟨a1, a2, a3, a4⟩ := ih x y hy h' K σ' n' hs'
      simp only [thaw]
      exact ⟨.iface _ _ a1, a2, a3, a4⟩
    | agg cs h' =>
      simp only [giv, Option.map_eq_some_iff] at h
      obtain ⟨m, hm, rfl⟩ := h
      exact thw_agg (thwL_all cs m _ (fun x y hx hy => ih x y hy (ok_mem.1 h' x hx)) hm)
    | tup cs h' =>
      simp only [giv, Option.map_eq_some_iff] at h
      obtain ⟨m, hm, rfl⟩ := h
      intro K σ' n' hs'
      obtain ⟨a1, a2, a3, a4⟩ := thwL_all cs m _ (fun x y hx hy => ih x y hy (ok_mem.1 h' x hx)) hm K σ' n' hs'
      simp only [thaw]
      exact ⟨.tup _ a1, a2, a3, a4⟩
    | ref id off len sz h' =>
      simp only [giv] at h
      split at h
      · rename_i sz' xs hrow
        split at h
        · simp only [Option.map_eq_some_iff] at h
          obtain ⟨m, hm, rfl⟩ := h
          intro K σ' n' hs'
          obtain ⟨a1, a2, a3, a4⟩ := thwL_all xs m _ (fun x y hx hy => ihE x y hy (ok_mem.1 (fun i x hx => hs.1 _ _ _ hrow i x hx) x hx)) hm K σ' n' hs'
          simp only [thaw]
          have hsub : ∀ id, More K n' (thawL σ' n' m).2.2 id → More K n' ((thawL σ' n' m).2.2 + 1) id := fun id hh => by
            rcases hh with hh | hh
            · exact .inl hh
            · exact .inr ⟨hh.1, by omega⟩
          exact ⟨.ref _ _ _ _ (.inr ⟨a3, by omega⟩), (a2.mono hsub).upd_row (fun i x hx => (a1 i x hx).mono hsub), by omega, fun id' hid => by
            by_cases e : id' = (thawL σ' n' m).2.2
            · right; omega
            · rcases a4 id' (by simpa [upd, e] using hid) with h | h
              · exact .inl h
              · exact .inr ⟨h.1, by omega⟩⟩
        · cases h
      · cases h

theorem wf_ok (hw : WF w X ι σ n) : OkS (fun id => id < n ∧ ι id < w.heap.size) σ := by
  refine ⟨fun id sz xs hs i x hx => ?_, fun id env ps a b st pend hs t => ?_⟩
  · obtain ⟨cells, ty, u, a1, a2, a3, a4, a5⟩ := hw.row id sz xs hs
    exact ok_of_cells (fun j e he => rep_ok (a5 i x j e hx he))
  · obtain ⟨r, a1, a2⟩ := hw.loop id _ _ _ _ _ _ hs
    exact rep_ok (a2.rep t)

theorem back_thw {m : Mode} {w' : World} {X0 : Nat → Prop} {r : V} {u : Value} (h : Back m w w' X0 r u) : Thw r := by
  obtain ⟨X1, ι1, σ1, n1, v, hw1, hr1, hback, he⟩ := h
  by_cases hm : m = .own
  · subst hm
    exact giv_thw (wf_ok hw1) DEEP v r hback.1 (rep_ok hr1)
  · have hfrz : frz σ1 DEEP v = some r := by
      cases m <;> simp only [back] at hback <;> first | exact hback | exact absurd rfl hm
    refine thw_leaf (thaw_frz DEEP v r hfrz) (fun K => ?_)
    have := frz_rep (ι' := fun _ => 0) (n' := 0) hw1 (D := rch σ1 DEEP v) DEEP v r u hfrz hr1 (fun _ h => h)
    exact (rep_ok this).mono (fun id h => by omega)

end

section
variable {P : Program} {T : Tab} {w : World} {X : Nat → Prop} {ι : Nat → Nat} {σ : Sto} {n lk : Nat} {ρ' : Opd → V}

/-- What an operation of a drawn region comes to speaks of no objects but those that it was shown, and new ones. -/
def Says (ρ' : Opd → V) (σ : Sto) (n : Nat) (ai : AI) (v : V) (σ' : Sto) (n' : Nat) : Prop :=
  ∀ K : Nat → Prop, (∀ x ∈ ai.opds, Ok K (ρ' x)) → OkS K σ → Ok (More K n n') v ∧ OkS (More K n n') σ' ∧ Dom σ σ' n n'

theorem zeros_ok {o : Oper} {ai : AI} (hc : cOp P o = some ai) : ∀ e ∈ ai.zeros, Ok (fun _ => False) e := by
  have key : ∀ {t : TypeId} {i : TI}, ti P t = some i → Ok (fun _ => False) i.zero := fun {t i} hi => by
    obtain ⟨_, j, z, _, _, _, _, hz⟩ := ti_spec hi
    exact (rep_ok (ofValA_rep (w := default) (X := fun _ => False) (ι := fun _ => 0) (n := 0) hz)).mono (fun id h => by omega)
  have keyc : ∀ {t : TypeId} {i : TI}, ti P t = some i → ∀ e ∈ i.zero.cells, Ok (fun _ => False) e := fun hi e he => ok_mem.1 (Ok.cells (key hi)) e he
  obtain ⟨dst, op, ty, pos, after, guard⟩ := o
  intro e he
  cases ai <;> simp only [AI.zeros, List.not_mem_nil] at he
  case alloc z =>
    simp at he; subst he
    cases op <;> simp only [cOp, reduceCtorEq] at hc
    all_goals
      repeat' (first | (simp only [Option.bind_eq_bind, Option.bind_eq_some_iff, Option.map_eq_some_iff, Option.some.injEq, reduceCtorEq, and_false, exists_false] at hc; done) |
        (simp only [Option.bind_eq_bind, Option.bind_eq_some_iff, Option.map_eq_some_iff, Option.some.injEq, reduceCtorEq, and_false, exists_false, AI.alloc.injEq] at hc) | (obtain ⟨_, _, hc⟩ := hc) | split at hc | (subst hc; exact key (by assumption)) | exact key (by assumption) | cases hc)
  case build z ps =>
    cases op <;> simp only [cOp, reduceCtorEq] at hc
    all_goals
      repeat' (first | (simp only [Option.bind_eq_bind, Option.bind_eq_some_iff, Option.map_eq_some_iff, Option.some.injEq, reduceCtorEq, and_false, exists_false] at hc; done) |
        (simp only [Option.bind_eq_bind, Option.bind_eq_some_iff, Option.map_eq_some_iff, Option.some.injEq, reduceCtorEq, and_false, exists_false, AI.build.injEq] at hc) | (obtain ⟨rfl, _⟩ := hc; exact keyc (by assumption) e he) | (obtain ⟨_, _, hc⟩ := hc) | split at hc | cases hc)
  case tas ok t z x =>
    simp at he; subst he
    cases op <;> simp only [cOp, reduceCtorEq] at hc
    all_goals
      repeat' (first | (simp only [Option.bind_eq_bind, Option.bind_eq_some_iff, Option.map_eq_some_iff, Option.some.injEq, reduceCtorEq, and_false, exists_false] at hc; done) |
        (simp only [Option.bind_eq_bind, Option.bind_eq_some_iff, Option.map_eq_some_iff, Option.some.injEq, reduceCtorEq, and_false, exists_false, AI.tas.injEq] at hc) | (obtain ⟨_, _, rfl, _⟩ := hc; exact key (by assumption)) | (obtain ⟨_, _, hc⟩ := hc) | split at hc | cases hc)
  case mksl sz bytes z len =>
    simp at he; subst he
    cases op <;> simp only [cOp, reduceCtorEq] at hc
    all_goals
      repeat' (first | (simp only [Option.bind_eq_bind, Option.bind_eq_some_iff, Option.map_eq_some_iff, Option.some.injEq, reduceCtorEq, and_false, exists_false] at hc; done) |
        (simp only [Option.bind_eq_bind, Option.bind_eq_some_iff, Option.map_eq_some_iff, Option.some.injEq, reduceCtorEq, and_false, exists_false, AI.mksl.injEq] at hc) | (obtain ⟨_, _, rfl, _⟩ := hc; exact key (by assumption)) | (obtain ⟨_, _, hc⟩ := hc) | split at hc | cases hc)

theorem callW_says {f : Nat} {args : List V} {us : Array Value} {Q : V → Sto → Nat → Prop} (hw : WF w X ι σ n) (hr : Reps w X ι n args us) (h : callW T (sndC P T) false f args σ n lk Q) :
    callW T (sndC P T) false f args σ n lk (fun v σ' n' => Q v σ' n' ∧ ∀ K : Nat → Prop, OkS K σ → Ok (More K n n') v ∧ OkS (More K n n') σ' ∧ Dom σ σ' n n') := by
  unfold callW at *
  cases hm : T.mode f <;> simp only [hm] at h ⊢
  case raw => simp at h
  all_goals
    obtain ⟨ts, h1, r, h2, D, h3, h4, h5, h6⟩ := h
    refine ⟨ts, h1, r, h2, D, h3, h4, h5, h6, ?_⟩
    have hD : D = [] := h4 trivial
    subst hD
    rw [dropL_nil]
    obtain ⟨b1, b2⟩ := args_frz hw h1 hr.1 hr.2
    obtain ⟨_, hcall⟩ := h2
    obtain ⟨_, hcall⟩ := hcall w (cutX X ι σ (args.flatMap (rch σ DEEP))) us (fun b hb => hw.xlt b hb.1) ⟨b1, b2⟩
    obtain ⟨e, w', fr, ⟨u, r2, rfl, he, hb⟩, _⟩ := hcall [] (room_wide _)
    cases he
    have ht := back_thw hb
    exact fun K hs => ⟨(ht K σ n hs).1, (ht K σ n hs).2.1, (ht K σ n hs).2.2.2⟩

theorem opW_says {ρ : Operand → Value} {o : Oper} {ai : AI} {Q : V → Sto → Nat → Prop} (hw : WF w X ι σ n)
    (hρ : ∀ (x : Operand) (x' : Opd), cOpd x = some x' → Rep w X ι n (ρ' x') (ρ x)) (hc : cOp P o = some ai)
    (h : opW T (sndC P T) false ρ' σ n lk ai Q) : opW T (sndC P T) false ρ' σ n lk ai (fun v σ' n' => Q v σ' n' ∧ Says ρ' σ n ai v σ' n') := by
  by_cases hinv : ∃ x tbl es, ai = .inv x tbl es
  · obtain ⟨x, tbl, es, rfl⟩ := hinv
    simp only [opW] at h
    exact absurd h.1 (by simp)
  by_cases hcall : ∃ g es, ai = .callv g es ∨ ∃ f, ai = .call f es
  · obtain ⟨g, es, hai⟩ := hcall
    obtain ⟨c, hop, x, hcal, es', hes, hx⟩ := call_shape hc hai
    obtain ⟨e1, e2⟩ := cOpds_spec hes hρ
    have hreps : Reps w X ι n (es'.map ρ') (c.args.map ρ) := ⟨by simpa using e1.symm, fun i e u he hu => e2 i e u he (by simpa using hu)⟩
    rcases hx with ⟨f, rfl, rfl⟩ | ⟨g', hg, rfl⟩
    · simp only [opW] at h ⊢
      have := callW_says hw hreps h
      exact callW_mono (fun _ _ h => h) (sndC_mono P T) (fun v σ' n' hh => ⟨hh.1, fun K _ hs => hh.2 K hs⟩) this
    · simp only [opW] at h ⊢
      have hgr := hρ _ _ hg
      split at h
      · rename_i f caps hval
        rw [hval] at hgr
        generalize hu : ρ x = u at hgr
        cases hgr with
        | fn _ _ cus hl' hr' =>
          have hreps' : Reps w X ι n (es'.map ρ' ++ caps) (c.args.map ρ ++ cus) := by
            refine ⟨by rw [Array.size_append, List.length_append, hreps.1, hl'], fun i e u he hu => ?_⟩
            rw [List.getElem?_append] at he
            rw [Array.getElem?_append] at hu
            rw [hreps.1] at hu
            split at he <;> rename_i hlt
            · rw [if_pos hlt] at hu; exact hreps.2 i e u he hu
            · rw [if_neg hlt] at hu; exact hr' _ e u he hu
          exact callW_mono (fun _ _ h => h) (sndC_mono P T) (fun v σ' n' hh => ⟨hh.1, fun K _ hs => hh.2 K hs⟩) (callW_says hw hreps' h)
      · rename_i f bs hval
        rw [hval] at hgr
        generalize hu : ρ x = u at hgr
        cases hgr with
        | bnd _ _ bus hl' hr' =>
          have hreps' : Reps w X ι n (bs ++ es'.map ρ') (bus ++ c.args.map ρ) := by
            refine ⟨by rw [Array.size_append, List.length_append, hreps.1, hl'], fun i e u he hu => ?_⟩
            rw [List.getElem?_append] at he
            rw [Array.getElem?_append] at hu
            rw [← hl'] at hu
            split at he <;> rename_i hlt
            · rw [if_pos hlt] at hu; exact hr' i e u he hu
            · rw [if_neg hlt] at hu; exact hreps.2 _ e u he hu
          exact callW_mono (fun _ _ h => h) (sndC_mono P T) (fun v σ' n' hh => ⟨hh.1, fun K _ hs => hh.2 K hs⟩) (callW_says hw hreps' h)
      · simp at h
      · exact h.elim
  · unfold opW at h ⊢
    split at h
    · exact absurd ⟨.con .undef, _, .inr ⟨_, rfl⟩⟩ hcall
    · exact absurd ⟨_, _, .inl rfl⟩ hcall
    · exact absurd ⟨_, _, _, rfl⟩ hinv
    · split at h
      · rename_i v σ' n' he
        refine ⟨h, fun K hk hs => ?_⟩
        exact ev_ok hk (zeros_ok hc) hs v σ' n' he
      · exact h.elim

end
end Go.Q
end

section
/- A region that draws its order: what its table says; objects of the store, one by one. -/
set_option linter.unusedSimpArgs false
set_option linter.unusedVariables false
set_option linter.unusedSectionVars false
namespace Go.Q

def befAt (bef : List Nat) (i j : Nat) : Bool := ((bef[i]?).getD 0).testBit j

/-- What a region's table says. -/
structure RegSt (P : Program) (N : Nat) (ops : Array Oper) (bef : List Nat) (os : List AOp) : Prop where
  hlen : os.length = ops.size
  hcomp : ∀ (i : Nat) (o' : AOp), os[i]? = some o' → ∃ o, ops[i]? = some o ∧ cOper P N ops o = some o' ∧ (∀ t, Operand.tmp t ∈ o.op.operands.toList → t ∈ o'.reads) ∧ ∀ v, Opd.con v ∈ o'.op.opds → v.plain = true
  hbef : ∀ (i : Nat) (o : Oper) (j : Nat), ops[i]? = some o → j < ops.size → befAt bef i j = true →
    j < i ∧ ∃ e ∈ o.after.toList, Region.binds .any e = true ∧ (e.on = j ∨ befAt bef e.on j = true)
  hedge : ∀ (i : Nat) (o : Oper), ops[i]? = some o → ∀ e ∈ o.after.toList, Region.binds .any e = true → e.on < i

/-- What the table says of a part that draws its order, from number lo on. -/
structure Sta (P : Program) (N : Nat) (ops : Array Oper) (bef : List Nat) (ds : List DOp) (tot lo : Nat) : Prop where
  hwin : lo + ds.length ≤ ops.size
  hcomp : ∀ (i : Nat) (d : DOp), ds[i]? = some d → ∃ o, ops[lo + i]? = some o ∧ cOper P N ops o = some d.o ∧ ∀ t, Operand.tmp t ∈ o.op.operands.toList → t ∈ d.o.reads
  hbef : ∀ (i : Nat) (o : Oper) (j : Nat), ops[i]? = some o → j < ops.size → befAt bef i j = true →
    j < i ∧ ∃ e ∈ o.after.toList, Region.binds .any e = true ∧ (e.on = j ∨ befAt bef e.on j = true)
  hedge : ∀ (i : Nat) (o : Oper), ops[i]? = some o → ∀ e ∈ o.after.toList, Region.binds .any e = true → e.on < i
  htop : ∀ (i : Nat) (d : DOp), ds[i]? = some d → d.rank + (if d.lays then 1 else 0) ≤ tot
  hpure : ∀ (i : Nat) (d : DOp), ds[i]? = some d → d.pure = true → d.lays = false
  hlo : ∀ (i : Nat) (d : DOp), ds[i]? = some d → d.lo ≤ d.rank
  hcon : ∀ (i : Nat) (d : DOp), ds[i]? = some d → ∀ v, Opd.con v ∈ d.o.op.opds → v.plain = true
  hpair : ∀ (i j : Nat) (d e : DOp), i < j → ds[i]? = some d → ds[j]? = some e → d.rank + (if d.lays then 1 else 0) ≤ e.rank ∧ (apart bef (lo + i) (lo + j) = true → pairOk d e = true)

theorem okDraw_spec {bef : List Nat} {tot : Nat} : ∀ (ds : List DOp) (k : Nat), okDraw bef tot ds k = true →
    (∀ (i : Nat) (d : DOp), ds[i]? = some d → d.rank + (if d.lays then 1 else 0) ≤ tot ∧ (d.pure = true → d.lays = false) ∧ d.lo ≤ d.rank) ∧
    ∀ (i j : Nat) (d e : DOp), i < j → ds[i]? = some d → ds[j]? = some e → d.rank + (if d.lays then 1 else 0) ≤ e.rank ∧ (apart bef (k + i) (k + j) = true → pairOk d e = true)
  | [], k, _ => ⟨fun i d h => by simp at h, fun i j d e _ h => by simp at h⟩
  | d :: ds, k, h => by
    simp only [okDraw, Bool.and_eq_true, decide_eq_true_eq, Bool.or_eq_true, Bool.not_eq_true', List.all_eq_true] at h
    obtain ⟨⟨⟨⟨h1, h2⟩, h0⟩, h3⟩, h4⟩ := h
    obtain ⟨i1, i2⟩ := okDraw_spec ds (k + 1) h4
    refine ⟨fun i d' hd => ?_, fun i j d' e hij hd he => ?_⟩
    · cases i with
      | zero =>
        simp at hd; subst hd
        refine ⟨h1, fun hp => ?_, h0⟩
        rcases h2 with h2 | h2
        · rw [hp] at h2; cases h2
        · exact h2.2
      | succ i => exact i1 i d' (by simpa using hd)
    · cases j with
      | zero => omega
      | succ j =>
        have he' : ds[j]? = some e := by simpa using he
        cases i with
        | zero =>
          simp at hd; subst hd
          have := h3 (e, j) (List.mem_zipIdx_iff_getElem?.2 he')
          simp only at this
          refine ⟨this.1, fun ha => ?_⟩
          rcases this.2 with h5 | h5
          · rw [show k + (j + 1) = k + 1 + j by omega, Nat.add_zero] at ha
            rw [ha] at h5; cases h5
          · exact h5
        | succ i =>
          obtain ⟨a1, a2⟩ := i2 i j d' e (by omega) (by simpa using hd) he'
          exact ⟨a1, fun ha => a2 (by rw [show k + 1 + i = k + (i + 1) by omega, show k + 1 + j = k + (j + 1) by omega]; exact ha)⟩

theorem cDraw_spec [Link] {P : Program} {N : Nat} {own : Nat → Bool} {ops : Array Oper} {segs : List Seg} (h : cDraw P N own ops = some segs) :
    ∃ bef os, RegSt P N ops bef os ∧ mkSegs bef own os.length (os.length + 1) 0 os = some segs := by
  simp only [cDraw, Option.bind_eq_bind, Option.bind_eq_some_iff] at h
  obtain ⟨bef, hb, os, hos, h⟩ := h
  split at h
  · rename_i hc
    simp only [Bool.and_eq_true, okOps] at hc
    obtain ⟨hbo, hall, hcon⟩ := hc
    obtain ⟨m1, m2⟩ := mapM_get _ _ _ hos
    refine ⟨bef, os, ⟨by rw [← m1]; simp, fun i o' hod => ?_, fun i o j ho hj ht => ?_, fun i o ho e he hb => ?_⟩, h⟩
    · have hi : i < ops.toList.length := by rw [m1]; exact (List.getElem?_eq_some_iff.1 hod).1
      have hoi : ops.toList[i]? = some ops.toList[i] := List.getElem?_eq_getElem hi
      refine ⟨ops.toList[i], by simp, m2 i _ _ hoi hod, fun t ht => ?_, fun v hv => ?_⟩
      · have := List.all_eq_true.1 hall (ops.toList[i], o') (List.mem_of_getElem? (i := i) (by rw [List.getElem?_zip_eq_some]; exact ⟨hoi, hod⟩))
        have := List.all_eq_true.1 this _ ht
        simpa using this
      · have := List.all_eq_true.1 hcon o' (List.mem_of_getElem? hod)
        have := List.all_eq_true.1 this _ hv
        simpa using this
    · simp only [befOk, List.all_eq_true] at hbo
      have ho' : ops.toList[i]? = some o := by simpa using ho
      have := (Bool.and_eq_true _ _ ▸ hbo (o, i) (List.mem_zipIdx_iff_getElem?.2 ho')).2
      simp only [List.all_eq_true, Bool.or_eq_true, Bool.not_eq_true', Bool.and_eq_true, decide_eq_true_eq, List.any_eq_true] at this
      have := this j (List.mem_range.2 (by simpa using hj))
      rcases this with h | ⟨h1, e, he, h2, h3⟩
      · unfold befAt at ht; rw [h] at ht; cases ht
      · refine ⟨h1, e, he, h2, ?_⟩
        rcases h3 with h3 | h3
        · left; simpa using h3
        · right; exact h3
    · simp only [befOk, List.all_eq_true] at hbo
      have ho' : ops.toList[i]? = some o := by simpa using ho
      have := (Bool.and_eq_true _ _ ▸ hbo (o, i) (List.mem_zipIdx_iff_getElem?.2 ho')).1
      have := List.all_eq_true.1 this e he
      simpa [hb] using this
  · cases h

theorem mkWin_spec [Link] {P : Program} {N : Nat} {own : Nat → Bool} {ops : Array Oper} {bef : List Nat} {os win : List AOp} {lo : Nat} (hr : RegSt P N ops bef os)
    (hwin : ∀ (i : Nat) (o' : AOp), win[i]? = some o' → os[lo + i]? = some o') (hle : lo + win.length ≤ ops.size) (hok : okDraw bef (mkWin bef own lo win).2 (mkWin bef own lo win).1 lo = true) :
    Sta P N ops bef (mkWin bef own lo win).1 (mkWin bef own lo win).2 lo ∧ (mkWin bef own lo win).1.length = win.length := by
  obtain ⟨o1, o2⟩ := okDraw_spec _ lo hok
  have hlen : (mkWin bef own lo win).1.length = win.length := by simp [mkWin]
  have hget : ∀ (i : Nat) (d : DOp), (mkWin bef own lo win).1[i]? = some d → win[i]? = some d.o := by
    intro i d hd
    simp only [mkWin] at hd
    rw [List.getElem?_map, Option.map_eq_some_iff] at hd
    obtain ⟨⟨o, j⟩, ho, hd⟩ := hd
    rw [List.getElem?_zipIdx, Option.map_eq_some_iff] at ho
    obtain ⟨o', ho', he⟩ := ho
    simp only [Prod.mk.injEq] at he
    obtain ⟨rfl, rfl⟩ := he
    rw [← hd]; exact ho'
  refine ⟨⟨by rw [hlen]; exact hle, fun i d hd => ?_, hr.hbef, hr.hedge, fun i d hd => (o1 i d hd).1, fun i d hd => (o1 i d hd).2.1, fun i d hd => (o1 i d hd).2.2, fun i d hd v hv => ?_, fun i j d e hij hd he => o2 i j d e hij hd he⟩, hlen⟩
  · obtain ⟨o, p1, p2, p3, -⟩ := hr.hcomp (lo + i) d.o (hwin i _ (hget i d hd))
    exact ⟨o, p1, p2, p3⟩
  · obtain ⟨o, p1, p2, p3, p4⟩ := hr.hcomp (lo + i) d.o (hwin i _ (hget i d hd))
    exact p4 v hv

section
variable [Link] {w w' : World} {X X' : Nat → Prop} {ι ι' : Nat → Nat} {σ σ' : Sto} {n n' m m' id : Nat}

/-- An object of the store stands in its block. -/
def ObRep (w : World) (X : Nat → Prop) (ι : Nat → Nat) (m id : Nat) : Ob → Prop
  | .row sz xs => ∃ (cells : Array Value) (ty : TypeId) (u : Nat → Nat → Value),
      w.heap[ι id]? = some (.cells cells ty (0, 0)) ∧ xs.length * sz ≤ cells.size ∧
      (∀ (i : Nat) (x : V), xs[i]? = some x → x.cells.length = sz ∧ x.cells.all V.one = true) ∧
      (∀ (i : Nat) (x : V) (j : Nat) (e : V), xs[i]? = some x → x.cells[j]? = some e → cells[i * sz + j]? = some (u i j)) ∧
      (∀ (i : Nat) (x : V) (j : Nat) (e : V), xs[i]? = some x → x.cells[j]? = some e → Rep w X ι m e (u i j))
  | .loop env ps a b st pend => ∃ r : Loop, w.heap[ι id]? = some (.loop r) ∧ LoopRep w X ι m r env ps a b st pend

theorem WF.ob (h : WF w X ι σ n) {o : Ob} (hs : σ id = some o) : ObRep w X ι n id o := by
  cases o with
  | row sz xs => exact h.row id sz xs hs
  | loop env ps a b st pend => exact h.loop id _ _ _ _ _ _ hs

theorem WF.of_ob (h : ∀ id o, σ id = some o → ObRep w X ι n id o) (own : ∀ id, σ id ≠ none → X (ι id)) (inj : ∀ id id', σ id ≠ none → σ id' ≠ none → ι id = ι id' → id = id')
    (dom : ∀ id, σ id ≠ none → id < n) (xlt : ∀ b, X b → b < w.heap.size) : WF w X ι σ n :=
  ⟨fun id sz xs hs => h id _ hs, fun l env ps a b st pend hs => h l _ hs, own, inj, dom, xlt⟩

theorem ObRep.move' (h1 : w.heap.size ≤ w'.heap.size) (h2 : ∀ b, b < w.heap.size → ¬ X b → w'.heap[b]? = w.heap[b]?)
    (h3 : ∀ (b : Nat) c t f, w.heap[b]? = some (.cells c t f) → ∃ c', w'.heap[b]? = some (.cells c' t f) ∧ c'.size = c.size)
    (h4 : ∀ id, id < m → ι id < w.heap.size → ι' id = ι id) (h5 : ∀ b, b < w.heap.size → X' b → X b) (h6 : m ≤ m') (hb : w'.heap[ι' id]? = w.heap[ι id]?) {o : Ob} (h : ObRep w X ι m id o) :
    ObRep w' X' ι' m' id o := by
  cases o with
  | row sz xs =>
    obtain ⟨cells, ty, u, a1, a2, a3, a4, a5⟩ := h
    exact ⟨cells, ty, u, hb.trans a1, a2, a3, a4, fun i x j e hx he => (a5 i x j e hx he).move' h1 h2 h3 h4 h5 h6⟩
  | loop env ps a b st pend =>
    obtain ⟨r, a1, a2⟩ := h
    exact ⟨r, hb.trans a1, a2.hst, a2.hpend, a2.hpn, a2.hps, a2.code, fun t => (a2.rep t).move' h1 h2 h3 h4 h5 h6⟩

/-- What an object speaks of. -/
def OkOb (K : Nat → Prop) : Ob → Prop
  | .row _ xs => ∀ (i : Nat) (x : V), xs[i]? = some x → Ok K x
  | .loop env .. => ∀ t, Ok K (env t)

theorem OkS.ob {K : Nat → Prop} (h : OkS K σ) {o : Ob} (hs : σ id = some o) : OkOb K o := by
  cases o with
  | row sz xs => exact h.1 id sz xs hs
  | loop env ps a b st pend => exact h.2 id _ _ _ _ _ _ hs

theorem ObRep.on {K : Nat → Prop} {o : Ob} (h : ObRep w X ι m id o) (hk : OkOb K o) (hι : ∀ id, K id → ι' id = ι id) (hm : ∀ id, K id → id < m') (hid : ι' id = ι id) : ObRep w X ι' m' id o := by
  cases o with
  | row sz xs =>
    obtain ⟨cells, ty, u, a1, a2, a3, a4, a5⟩ := h
    exact ⟨cells, ty, u, by rw [hid]; exact a1, a2, a3, a4, fun i x j e hx he => (a5 i x j e hx he).on (Ok.cells (hk i x hx) j e he) hι hm⟩
  | loop env ps a b st pend =>
    obtain ⟨r, a1, a2⟩ := h
    exact ⟨r, by rw [hid]; exact a1, a2.hst, a2.hpend, a2.hpn, a2.hps, a2.code, fun t => (a2.rep t).on (hk t) hι hm⟩

end
end Go.Q
end
