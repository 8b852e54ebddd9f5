/- Rows that a call hands over become objects of its caller's store. -/
import Derived.Test.YtaigdfomoplchaaQvFrz
set_option linter.unusedSimpArgs false
set_option linter.unusedVariables false
set_option linter.unusedSectionVars false
namespace Go.Q
variable [Link]

theorem giv_live {σ : Sto} : ∀ (k : Nat) (v r : V), giv σ k v = some r → ∀ g ∈ gids σ k v, σ g ≠ none := by
  intro k
  induction k with
  | zero => intro v r h; simp [giv] at h
  | succ k ih =>
    have ihL : ∀ (l m : List V), l.mapM (giv σ k) = some m → ∀ g ∈ l.flatMap (gids σ k), σ g ≠ none := by
      intro l m h g hg
      obtain ⟨x, hx, hg⟩ := List.mem_flatMap.1 hg
      obtain ⟨i, hi, rfl⟩ := List.getElem_of_mem hx
      obtain ⟨h1, h2⟩ := mapM_get' _ _ _ h
      exact ih _ _ (h2 i _ _ (List.getElem?_eq_getElem hi) (List.getElem?_eq_getElem (by omega))) g hg
    intro v r h g hg
    cases v <;> simp only [gids, List.not_mem_nil] at hg
    case agg cs => simp only [giv, Option.map_eq_some_iff] at h; obtain ⟨m, hm, rfl⟩ := h; exact ihL _ _ hm g hg
    case tup cs => simp only [giv, Option.map_eq_some_iff] at h; obtain ⟨m, hm, rfl⟩ := h; exact ihL _ _ hm g hg
    case iface t x => simp only [giv, Option.map_eq_some_iff] at h; obtain ⟨m, hm, rfl⟩ := h; exact ih _ _ hm g hg
    case ref id off len sz =>
      simp only [giv] at h
      split at h
      · rename_i sz' xs hrow
        simp only [hrow, List.mem_cons] at hg
        split at h
        · simp only [Option.map_eq_some_iff] at h
          obtain ⟨m, hm, rfl⟩ := h
          rcases hg with rfl | hg
          · rw [hrow]; simp
          · obtain ⟨x, hx, hg⟩ := List.mem_flatMap.1 hg
            obtain ⟨i, hi, rfl⟩ := List.getElem_of_mem hx
            obtain ⟨h1, h2⟩ := mapM_get' _ _ _ hm
            have he := h2 i _ _ (List.getElem?_eq_getElem hi) (List.getElem?_eq_getElem (by omega))
            unfold elemM at he
            split at he
            · rename_i cs hcs
              simp only [Option.map_eq_some_iff] at he
              obtain ⟨cs', hcs', _⟩ := he
              rw [hcs] at hg
              exact ihL _ _ hcs' g hg
            · rename_i hcs
              rw [not_agg_cells hcs] at hg
              simp only [List.flatMap_cons, List.flatMap_nil, List.append_nil] at hg
              exact ih _ _ he g hg
        · cases h
      · cases h

section
variable {w : World} {X1 Xf : Nat → Prop} {ι1 : Nat → Nat} {σ1 : Sto} {n1 : Nat}

structure Thr (w : World) (Xf : Nat → Prop) (ι1 : Nat → Nat) (G : List Nat) (σ : Sto) (n : Nat) (ι : Nat → Nat) (σ' : Sto) (n' : Nat) (ι' : Nat → Nat) : Prop where
  wf : WF w Xf ι' σ' n'
  le : n ≤ n'
  ix : ∀ id, id < n → ι' id = ι id
  new : ∀ id, n ≤ id → σ' id ≠ none → ∃ g ∈ G, ι' id = ι1 g
  old : ∀ id, id < n → σ' id = σ id

variable {σ σ' σ'' : Sto} {n n' n'' : Nat} {ι ι' ι'' : Nat → Nat} {G G' : List Nat}

theorem Thr.refl (h : WF w Xf ι σ n) : Thr w Xf ι1 [] σ n ι σ n ι :=
  ⟨h, Nat.le_refl _, fun _ _ => rfl, fun id h1 h2 => absurd (h.dom id h2) (by omega), fun _ _ => rfl⟩

theorem Thr.trans (h : Thr w Xf ι1 G σ n ι σ' n' ι') (h' : Thr w Xf ι1 G' σ' n' ι' σ'' n'' ι'') : Thr w Xf ι1 (G ++ G') σ n ι σ'' n'' ι'' where
  wf := h'.wf
  le := Nat.le_trans h.le h'.le
  ix := fun id hid => (h'.ix id (Nat.lt_of_lt_of_le hid h.le)).trans (h.ix id hid)
  new := fun id hid hs => by
    by_cases hl : id < n'
    · rw [h'.old id hl] at hs
      obtain ⟨g, hg, e⟩ := h.new id hid hs
      exact ⟨g, List.mem_append_left _ hg, (h'.ix id hl).trans e⟩
    · obtain ⟨g, hg, e⟩ := h'.new id (by omega) hs
      exact ⟨g, List.mem_append_right _ hg, e⟩
  old := fun id hid => (h'.old id (Nat.lt_of_lt_of_le hid h.le)).trans (h.old id hid)

theorem Thr.rep (h : Thr w Xf ι1 G σ n ι σ' n' ι') {v : V} {u : Value} (hr : Rep w Xf ι n v u) : Rep w Xf ι' n' v u :=
  hr.move (Nat.le_refl _) (fun _ _ _ => rfl) (fun _ c _ _ h => ⟨c, h, rfl⟩) h.ix (fun _ _ h => h) h.le

def Fr (ι1 : Nat → Nat) (G : List Nat) (σ : Sto) (ι : Nat → Nat) : Prop := ∀ g ∈ G, ∀ id, σ id ≠ none → ι id ≠ ι1 g

theorem Thr.fr (hw1 : WF w X1 ι1 σ1 n1) (hw : WF w Xf ι σ n) (h : Thr w Xf ι1 G σ n ι σ' n' ι') (hf : Fr ι1 G' σ ι) (hl : ∀ g ∈ G, σ1 g ≠ none) (hl' : ∀ g ∈ G', σ1 g ≠ none)
    (hd : ∀ g ∈ G, g ∉ G') : Fr ι1 G' σ' ι' := by
  intro g hg id hs
  by_cases hid : id < n
  · rw [h.ix id hid]
    exact hf g hg id (by rwa [h.old id hid] at hs)
  · obtain ⟨g', hg', e⟩ := h.new id (by omega) hs
    rw [e]
    intro e'
    exact hd g' hg' (hw1.inj g' g (hl _ hg') (hl' _ hg) e' ▸ hg)

/-- What a value that is handed over comes to. -/
def GivOk (w : World) (X1 Xf : Nat → Prop) (ι1 : Nat → Nat) (σ1 : Sto) (n1 : Nat) (k : Nat) : Prop :=
  ∀ (v r : V) (u : Value), giv σ1 k v = some r → (flat r = true ∨ ∀ b, Xf b → X1 b) → Rep w X1 ι1 n1 v u → (∀ g ∈ gids σ1 k v, Xf (ι1 g)) → (gids σ1 k v).Nodup →
    ∀ (σ : Sto) (n : Nat) (ι : Nat → Nat), WF w Xf ι σ n → Fr ι1 (gids σ1 k v) σ ι →
      ∃ ι', Thr w Xf ι1 (gids σ1 k v) σ n ι (thaw σ n r).2.1 (thaw σ n r).2.2 ι' ∧ Rep w Xf ι' (thaw σ n r).2.2 (thaw σ n r).1 u ∧ (v.one = true → (thaw σ n r).1.one = true)

theorem givL (hw1 : WF w X1 ι1 σ1 n1) {k : Nat} (ih : GivOk w X1 Xf ι1 σ1 n1 k) : ∀ (l m : List V) (u : Nat → Value), l.mapM (giv σ1 k) = some m → (flatL m = true ∨ ∀ b, Xf b → X1 b) →
    (∀ (i : Nat) (e : V), l[i]? = some e → Rep w X1 ι1 n1 e (u i)) → (∀ g ∈ l.flatMap (gids σ1 k), Xf (ι1 g)) → (l.flatMap (gids σ1 k)).Nodup →
    ∀ (σ : Sto) (n : Nat) (ι : Nat → Nat), WF w Xf ι σ n → Fr ι1 (l.flatMap (gids σ1 k)) σ ι →
      ∃ ι', Thr w Xf ι1 (l.flatMap (gids σ1 k)) σ n ι (thawL σ n m).2.1 (thawL σ n m).2.2 ι' ∧ (thawL σ n m).1.length = l.length ∧
        (∀ (i : Nat) (e : V), (thawL σ n m).1[i]? = some e → Rep w Xf ι' (thawL σ n m).2.2 e (u i)) ∧ (l.all V.one = true → (thawL σ n m).1.all V.one = true) := by
  intro l
  induction l with
  | nil =>
    intro m u h _ _ _ _ σ n ι hw _
    simp at h; subst h
    exact ⟨ι, by simpa [thawL] using Thr.refl hw, by simp [thawL]⟩
  | cons x l ihl =>
    intro m u h hfl hr hX hnd σ n ι hw hf
    simp only [List.mapM_cons, Option.pure_def, Option.bind_eq_bind, Option.bind_eq_some_iff, Option.some.injEq] at h
    obtain ⟨y, hy, m', hm, rfl⟩ := h
    have hfl1 : flat y = true ∨ ∀ b, Xf b → X1 b := hfl.imp_left (fun h => by simp only [flatL, Bool.and_eq_true] at h; exact h.1)
    have hfl2 : flatL m' = true ∨ ∀ b, Xf b → X1 b := hfl.imp_left (fun h => by simp only [flatL, Bool.and_eq_true] at h; exact h.2)
    simp only [List.flatMap_cons] at hX hnd hf ⊢
    have hnd' := List.nodup_append.1 hnd
    obtain ⟨ι', ht, hrep, hone⟩ := ih x y (u 0) hy hfl1 (hr 0 x rfl) (fun g hg => hX g (List.mem_append_left _ hg)) hnd'.1 σ n ι hw (fun g hg => hf g (List.mem_append_left _ hg))
    have hlive : ∀ g ∈ gids σ1 k x, σ1 g ≠ none := giv_live k x y hy
    have hlive' : ∀ g ∈ l.flatMap (gids σ1 k), σ1 g ≠ none := fun g hg => by
      obtain ⟨x', hx', hg⟩ := List.mem_flatMap.1 hg
      obtain ⟨i, hi, rfl⟩ := List.getElem_of_mem hx'
      obtain ⟨h1, h2⟩ := mapM_get' _ _ _ hm
      exact giv_live _ _ _ (h2 i _ _ (List.getElem?_eq_getElem hi) (List.getElem?_eq_getElem (by omega))) g hg
    obtain ⟨ι'', ht', hlen, hrep', hone'⟩ := ihl m' (fun i => u (i + 1)) hm hfl2 (fun i e he => hr (i + 1) e (by simpa using he)) (fun g hg => hX g (List.mem_append_right _ hg)) hnd'.2.1
      (thaw σ n y).2.1 (thaw σ n y).2.2 ι' ht.wf (ht.fr hw1 hw (fun g hg => hf g (List.mem_append_right _ hg)) hlive hlive' (fun g hg hg' => hnd'.2.2 g hg g hg' rfl))
    refine ⟨ι'', by simpa [thawL] using ht.trans ht', by simp [thawL, hlen], ?_, ?_⟩
    · intro i e he
      simp only [thawL] at he ⊢
      cases i with
      | zero => simp at he; subst he; exact ht'.rep hrep
      | succ i => exact hrep' i e (by simpa using he)
    · intro h1
      simp only [List.all_cons, Bool.and_eq_true] at h1
      simp only [thawL, List.all_cons, Bool.and_eq_true]
      exact ⟨hone h1.1, hone' h1.2⟩

/-- The elements of a row that is handed over. -/
theorem givE (hw1 : WF w X1 ι1 σ1 n1) {k : Nat} (ih : GivOk w X1 Xf ι1 σ1 n1 k) (sz : Nat) : ∀ (l m : List V) (u : Nat → Nat → Value), l.mapM (elemM (giv σ1 k)) = some m → (flatL m = true ∨ ∀ b, Xf b → X1 b) →
    (∀ (i : Nat) (x : V), l[i]? = some x → x.cells.length = sz ∧ x.cells.all V.one = true) →
    (∀ (i : Nat) (x : V) (j : Nat) (e : V), l[i]? = some x → x.cells[j]? = some e → Rep w X1 ι1 n1 e (u i j)) →
    (∀ g ∈ l.flatMap (fun x => x.cells.flatMap (gids σ1 k)), Xf (ι1 g)) → (l.flatMap (fun x => x.cells.flatMap (gids σ1 k))).Nodup →
    ∀ (σ : Sto) (n : Nat) (ι : Nat → Nat), WF w Xf ι σ n → Fr ι1 (l.flatMap (fun x => x.cells.flatMap (gids σ1 k))) σ ι →
      ∃ ι', Thr w Xf ι1 (l.flatMap (fun x => x.cells.flatMap (gids σ1 k))) σ n ι (thawL σ n m).2.1 (thawL σ n m).2.2 ι' ∧ (thawL σ n m).1.length = l.length ∧
        (∀ (i : Nat) (x : V), (thawL σ n m).1[i]? = some x → x.cells.length = sz ∧ x.cells.all V.one = true) ∧
        (∀ (i : Nat) (x : V) (j : Nat) (e : V), (thawL σ n m).1[i]? = some x → x.cells[j]? = some e → Rep w Xf ι' (thawL σ n m).2.2 e (u i j)) := by
  intro l
  induction l with
  | nil =>
    intro m u h _ _ _ _ _ σ n ι hw _
    simp at h; subst h
    exact ⟨ι, by simpa [thawL] using Thr.refl hw, by simp [thawL], by simp [thawL], by simp [thawL]⟩
  | cons x l ihl =>
    intro m u h hfl hs hr hX hnd σ n ι hw hf
    simp only [List.mapM_cons, Option.pure_def, Option.bind_eq_bind, Option.bind_eq_some_iff, Option.some.injEq] at h
    obtain ⟨y, hy, m', hm, rfl⟩ := h
    have hfl1 : flat y = true ∨ ∀ b, Xf b → X1 b := hfl.imp_left (fun h => by simp only [flatL, Bool.and_eq_true] at h; exact h.1)
    have hfl2 : flatL m' = true ∨ ∀ b, Xf b → X1 b := hfl.imp_left (fun h => by simp only [flatL, Bool.and_eq_true] at h; exact h.2)
    simp only [List.flatMap_cons] at hX hnd hf ⊢
    have hnd' := List.nodup_append.1 hnd
    obtain ⟨hs1, hs2⟩ := hs 0 x rfl
    have key : ∃ ι', Thr w Xf ι1 (x.cells.flatMap (gids σ1 k)) σ n ι (thaw σ n y).2.1 (thaw σ n y).2.2 ι' ∧ (thaw σ n y).1.cells.length = sz ∧ (thaw σ n y).1.cells.all V.one = true ∧
        (∀ (j : Nat) (e : V), (thaw σ n y).1.cells[j]? = some e → Rep w Xf ι' (thaw σ n y).2.2 e (u 0 j)) ∧ ∀ g ∈ x.cells.flatMap (gids σ1 k), σ1 g ≠ none := by
      unfold elemM at hy
      split at hy
      · rename_i cs
        simp only [Option.map_eq_some_iff] at hy
        obtain ⟨cs', hcs, rfl⟩ := hy
        obtain ⟨ι', a, b, c, d⟩ := givL hw1 ih cs cs' (u 0) hcs (by simpa only [flat] using hfl1) (fun j e he => hr 0 _ j e rfl he) (fun g hg => hX g (List.mem_append_left _ hg)) hnd'.1 σ n ι hw (fun g hg => hf g (List.mem_append_left _ hg))
        refine ⟨ι', by simpa [thaw, V.cells] using a, by simp only [thaw, V.cells]; rw [b]; exact hs1, by simp only [thaw, V.cells]; exact d hs2, by simpa [thaw, V.cells] using c, fun g hg => ?_⟩
        obtain ⟨x', hx', hg⟩ := List.mem_flatMap.1 hg
        obtain ⟨i, hi, rfl⟩ := List.getElem_of_mem hx'
        obtain ⟨h1, h2⟩ := mapM_get' _ _ _ hcs
        exact giv_live _ _ _ (h2 i _ _ (List.getElem?_eq_getElem hi) (List.getElem?_eq_getElem (by simp only [V.cells] at hi; omega))) g hg
      · rename_i hx
        have hc := not_agg_cells hx
        rw [hc] at hs1 hs2 hX hnd' hf ⊢
        simp only [List.flatMap_cons, List.flatMap_nil, List.append_nil] at hX hnd' hf ⊢
        obtain ⟨ι', a, b, c⟩ := ih x y (u 0 0) hy hfl1 (hr 0 x 0 x rfl (by rw [hc]; rfl)) (fun g hg => hX g (List.mem_append_left _ hg)) hnd'.1 σ n ι hw (fun g hg => hf g (List.mem_append_left _ hg))
        have ho := c (by simpa using hs2)
        rw [one_cells ho]
        refine ⟨ι', a, hs1, by simpa using ho, fun j e he => ?_, giv_live _ _ _ hy⟩
        cases j with
        | zero => simp at he; subst he; exact b
        | succ j => simp at he
    obtain ⟨ι', ht, b1, b2, b3, hlive⟩ := key
    have hlive' : ∀ g ∈ l.flatMap (fun x => x.cells.flatMap (gids σ1 k)), σ1 g ≠ none := fun g hg => by
      obtain ⟨x', hx', hg⟩ := List.mem_flatMap.1 hg
      obtain ⟨i, hi, rfl⟩ := List.getElem_of_mem hx'
      obtain ⟨h1, h2⟩ := mapM_get' _ _ _ hm
      have he := h2 i _ _ (List.getElem?_eq_getElem hi) (List.getElem?_eq_getElem (by omega))
      unfold elemM at he
      split at he
      · rename_i cs hcs
        simp only [Option.map_eq_some_iff] at he
        obtain ⟨cs', hcs', _⟩ := he
        rw [hcs] at hg
        obtain ⟨x2, hx2, hg⟩ := List.mem_flatMap.1 hg
        obtain ⟨q, hq, rfl⟩ := List.getElem_of_mem hx2
        obtain ⟨h3, h4⟩ := mapM_get' _ _ _ hcs'
        exact giv_live _ _ _ (h4 q _ _ (List.getElem?_eq_getElem hq) (List.getElem?_eq_getElem (by simp [V.cells] at hq; omega))) g hg
      · rename_i hcs
        rw [not_agg_cells hcs] at hg
        simp only [List.flatMap_cons, List.flatMap_nil, List.append_nil] at hg
        exact giv_live _ _ _ he g hg
    obtain ⟨ι'', ht', hlen, c1, c2⟩ := ihl m' (fun i => u (i + 1)) hm hfl2 (fun i x hx => hs (i + 1) x (by simpa using hx)) (fun i x j e hx he => hr (i + 1) x j e (by simpa using hx) he)
      (fun g hg => hX g (List.mem_append_right _ hg)) hnd'.2.1
      (thaw σ n y).2.1 (thaw σ n y).2.2 ι' ht.wf (ht.fr hw1 hw (fun g hg => hf g (List.mem_append_right _ hg)) hlive hlive' (fun g hg hg' => hnd'.2.2 g hg g hg' rfl))
    refine ⟨ι'', by simpa [thawL] using ht.trans ht', by simp [thawL, hlen], ?_, ?_⟩
    · intro i z hz
      simp only [thawL] at hz
      cases i with
      | zero => simp at hz; subst hz; exact ⟨b1, b2⟩
      | succ i => exact c1 i z (by simpa using hz)
    · intro i z j e hz he
      simp only [thawL] at hz ⊢
      cases i with
      | zero => simp at hz; subst hz; exact ht'.rep (b3 j e he)
      | succ i => exact c2 i z j e (by simpa using hz) he

theorem giv_ok (hw1 : WF w X1 ι1 σ1 n1) : ∀ k, GivOk w X1 Xf ι1 σ1 n1 k := by
  intro k
  induction k with
  | zero => intro v r u h; simp [giv] at h
  | succ k ih =>
    intro v r u h hfl hr hX hnd σ n ι hw hf
    have leaf : ∀ {x : V}, (∀ σ n, thaw σ n x = (x, σ, n)) → Rep w Xf ι n x u → ∃ ι', Thr w Xf ι1 (gids σ1 (k + 1) v) σ n ι (thaw σ n x).2.1 (thaw σ n x).2.2 ι' ∧
        Rep w Xf ι' (thaw σ n x).2.2 (thaw σ n x).1 u ∧ (x.one = true → (thaw σ n x).1.one = true) := by
      intro x hx hrx
      rw [hx]
      exact ⟨ι, ⟨hw, Nat.le_refl _, fun _ _ => rfl, fun id h1 h2 => absurd (hw.dom id h2) (by omega), fun _ _ => rfl⟩, hrx, fun h => h⟩
    cases hr with
    | int q m => simp [giv] at h; subst h; exact leaf (fun _ _ => by simp [thaw]) (.int q m)
    | bool b => simp [giv] at h; subst h; exact leaf (fun _ _ => by simp [thaw]) (.bool b)
    | str s => simp [giv] at h; subst h; exact leaf (fun _ _ => by simp [thaw]) (.str s)
    | nilS => simp [giv] at h; subst h; exact leaf (fun _ _ => by simp [thaw]) .nilS
    | nilP => simp [giv] at h; subst h; exact leaf (fun _ _ => by simp [thaw]) .nilP
    | nilF => simp [giv] at h; subst h; exact leaf (fun _ _ => by simp [thaw]) .nilF
    | nilI => simp [giv] at h; subst h; exact leaf (fun _ _ => by simp [thaw]) .nilI
    | undef => simp [giv] at h; subst h; exact leaf (fun _ _ => by simp [thaw]) .undef
    | yld l hid => simp [giv] at h
    | ptr id sz i j hid => simp [giv] at h
    | fn f cs us hl hr' =>
      cases cs with
      | nil =>
        simp [giv] at h; subst h
        exact leaf (fun _ _ => by simp [thaw]) (.fn _ _ _ hl (fun i e u he => by simp at he))
      | cons c cs => simp [giv] at h
    | slE sz c a => simp [giv] at h; subst h; exact leaf (fun _ _ => by simp [thaw]) (.slE sz c a)
    | sl sz xs b o c u hc hX' hb hs hm hr' =>
      simp [giv] at h; subst h
      exact leaf (fun _ _ => by simp [thaw]) ((Rep.sl (n := n1) sz xs b o c u hc hX' hb hs hm hr').tree (hfl.resolve_left (by simp [flat])) (.inl ⟨_, _, rfl⟩))
    | box cs b o u hX' hb h1 hm hr' =>
      simp [giv] at h; subst h
      exact leaf (fun _ _ => by simp [thaw]) ((Rep.box (n := n1) cs b o u hX' hb h1 hm hr').tree (hfl.resolve_left (by simp [flat])) (.inr ⟨_, rfl⟩))
    | iface ty x u hr' =>
      simp only [giv, Option.map_eq_some_iff] at h
      obtain ⟨y, hy, rfl⟩ := h
      simp only [gids] at hX hnd hf ⊢
      obtain ⟨ι', a, b, c⟩ := ih x y u hy (by simpa only [flat] using hfl) hr' hX hnd σ n ι hw hf
      exact ⟨ι', by simpa [thaw] using a, by simp only [thaw]; exact .iface _ _ _ b, fun _ => rfl⟩
    | agg cs us hl hr' =>
      simp only [giv, Option.map_eq_some_iff] at h
      obtain ⟨m, hm, rfl⟩ := h
      simp only [gids] at hX hnd hf ⊢
      obtain ⟨ι', a, b, c, d⟩ := givL hw1 ih cs m (fun i => us.getD i undef) hm (by simpa only [flat] using hfl) (fun i e he => by
        have hi : i < us.size := by have := (List.getElem?_eq_some_iff.1 he).1; omega
        have := hr' i e us[i] he (Array.getElem?_eq_getElem hi)
        simpa [hi] using this) hX hnd σ n ι hw hf
      refine ⟨ι', by simpa [thaw] using a, ?_, fun h => by simp [V.one] at h⟩
      simp only [thaw]
      refine .agg _ _ (b.trans hl) (fun i e x he hx => ?_)
      have := c i e he
      rwa [show us.getD i undef = x by simp [Array.getD_eq_getD_getElem?, hx]] at this
    | tup cs us hl hr' =>
      simp only [giv, Option.map_eq_some_iff] at h
      obtain ⟨m, hm, rfl⟩ := h
      simp only [gids] at hX hnd hf ⊢
      obtain ⟨ι', a, b, c, d⟩ := givL hw1 ih cs m (fun i => us.getD i undef) hm (by simpa only [flat] using hfl) (fun i e he => by
        have hi : i < us.size := by have := (List.getElem?_eq_some_iff.1 he).1; omega
        have := hr' i e us[i] he (Array.getElem?_eq_getElem hi)
        simpa [hi] using this) hX hnd σ n ι hw hf
      refine ⟨ι', by simpa [thaw] using a, ?_, fun h => by simp [V.one] at h⟩
      simp only [thaw]
      refine .tup _ _ (b.trans hl) (fun i e x he hx => ?_)
      have := c i e he
      rwa [show us.getD i undef = x by simp [Array.getD_eq_getD_getElem?, hx]] at this
    | ref id off len sz c o cells ty fz hid hc ho hm hz =>
      simp only [giv] at h
      split at h
      · rename_i sz' xs hrow
        split at h
        · rename_i hcond
          obtain ⟨rfl, rfl, rfl⟩ := hcond
          simp only [Option.map_eq_some_iff] at h
          obtain ⟨m, hmm, rfl⟩ := h
          simp only [gids, hrow] at hX hnd hf ⊢
          obtain ⟨hid', hnd'⟩ := List.nodup_cons.1 hnd
          obtain ⟨cs0, ty0, u0, a1, a2, a3, a4, a5⟩ := hw1.row id _ _ hrow
          obtain ⟨ι', ht, hlen, c1, c2⟩ := givE hw1 ih sz' xs m u0 hmm (by simpa only [flat] using hfl) a3 a5 (fun g hg => hX g (List.mem_cons_of_mem _ hg)) hnd' σ n ι hw (fun g hg => hf g (List.mem_cons_of_mem _ hg))
          have hml : m.length = xs.length := (mapM_get' _ _ _ hmm).1.symm
          have hlive : ∀ g ∈ xs.flatMap (fun x => x.cells.flatMap (gids σ1 k)), σ1 g ≠ none := by
            have := giv_live (σ := σ1) (k + 1) (.ref id 0 xs.length sz') (.own sz' m) (by simp [giv, hrow, hmm])
            simp only [gids, hrow] at this
            exact fun g hg => this g (List.mem_cons_of_mem _ hg)
          have hfr : Fr ι1 [id] (thawL σ n m).2.1 ι' := ht.fr hw1 hw (fun g hg => by simp at hg; subst hg; exact hf _ (by simp)) hlive (fun g hg => by simp at hg; subst hg; rw [hrow]; simp)
            (fun g hg hg' => by simp at hg'; subst hg'; exact hid' hg)
          have hfr' := hfr id (by simp)
          generalize hT : thawL σ n m = T at *
          obtain ⟨ys, σ2, n2⟩ := T
          simp only [thaw, hT] at *
          have hi1 : ∀ q, q < n2 → (fun i => if i = n2 then ι1 id else ι' i) q = ι' q := fun q hq => by simp; omega
          have hmv : ∀ {v u}, Rep w Xf ι' n2 v u → Rep w Xf (fun i => if i = n2 then ι1 id else ι' i) (n2 + 1) v u := fun hh =>
            hh.move (Nat.le_refl _) (fun _ _ _ => rfl) (fun _ c _ _ h => ⟨c, h, rfl⟩) hi1 (fun _ _ h => h) (by omega)
          have hn2 : σ2 n2 = none := by
            cases hh : σ2 n2 with
            | none => rfl
            | some o => have := ht.wf.dom n2 (by rw [hh]; simp); omega
          have hne : ∀ q, upd σ2 n2 (some (.row sz' ys)) q ≠ none → q ≠ n2 → σ2 q ≠ none := fun q hq e => by simpa [upd, e] using hq
          refine ⟨fun i => if i = n2 then ι1 id else ι' i, ⟨?_, by have := ht.le; omega, fun q hq => by
            have := ht.le
            exact (hi1 q (by omega)).trans (ht.ix q hq), fun q hq hs => ?_, fun q hq => ?_⟩, ?_, fun _ => rfl⟩
          · constructor
            · intro q sz'' zs hh
              by_cases e : q = n2
              · subst e
                simp only [upd, if_true, Option.some.injEq, Ob.row.injEq] at hh
                obtain ⟨rfl, rfl⟩ := hh
                simp only [if_true]
                refine ⟨cs0, ty0, u0, a1, by rw [hlen]; exact a2, c1, fun i x j e hx he => ?_, fun i x j e hx he => hmv (c2 i x j e hx he)⟩
                obtain ⟨p1, p2⟩ := c1 i x hx
                have hi : i < xs.length := by have := (List.getElem?_eq_some_iff.1 hx).1; omega
                have hj : j < xs[i].cells.length := by
                  have := (List.getElem?_eq_some_iff.1 he).1
                  have := (a3 i _ (List.getElem?_eq_getElem hi)).1
                  omega
                exact a4 i _ j _ (List.getElem?_eq_getElem hi) (List.getElem?_eq_getElem hj)
              · simp only [upd, e, if_false] at hh
                obtain ⟨cells', ty', u', b1, b2, b3, b4, b5⟩ := ht.wf.row q _ _ hh
                simp only [e, if_false]
                exact ⟨cells', ty', u', b1, b2, b3, b4, fun i x j e hx he => hmv (b5 i x j e hx he)⟩
            · intro q env ps a b st pend hh
              by_cases e : q = n2
              · subst e; simp [upd] at hh
              · simp only [upd, e, if_false] at hh
                obtain ⟨r, b1, b2⟩ := ht.wf.loop q _ _ _ _ _ _ hh
                simp only [e, if_false]
                exact ⟨r, b1, b2.hst, b2.hpend, b2.hpn, b2.hps, b2.code, fun t => hmv (b2.rep t)⟩
            · intro q hq
              by_cases e : q = n2
              · subst e; simp only [if_true]; exact hX id (by simp)
              · simp only [e, if_false]; exact ht.wf.own q (hne q hq e)
            · intro q q' hq hq' he
              by_cases e : q = n2 <;> by_cases e' : q' = n2
              · omega
              · simp only [e, e', if_true, if_false] at he
                exact absurd he.symm (hfr' q' (hne q' hq' e'))
              · simp only [e, e', if_true, if_false] at he
                exact absurd he (hfr' q (hne q hq e))
              · simp only [e, e', if_false] at he
                exact ht.wf.inj q q' (hne q hq e) (hne q' hq' e') he
            · intro q hq
              by_cases e : q = n2
              · omega
              · have := ht.wf.dom q (hne q hq e); omega
            · exact ht.wf.xlt
          · by_cases e : q = n2
            · exact ⟨id, by simp, by simp [e]⟩
            · obtain ⟨g, hg, eg⟩ := ht.new q hq (hne q hs e)
              exact ⟨g, List.mem_cons_of_mem _ hg, by simp only [e, if_false]; exact eg⟩
          · have := ht.le
            have e : q ≠ n2 := by omega
            simp only [upd, e, if_false]
            exact ht.old q hq
          · rw [hml]
            have := Rep.ref (w := w) (X := Xf) (ι := fun i => if i = n2 then ι1 id else ι' i) (n := n2 + 1) n2 0 xs.length sz' c o cells ty fz (by omega) hc ho (by simpa using hm) hz
            simpa using this
        · cases h
      · cases h

end
end Go.Q
