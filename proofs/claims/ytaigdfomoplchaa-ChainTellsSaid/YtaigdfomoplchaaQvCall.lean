/- A call on trees: what its caller has when it is back. -/
import Derived.Test.YtaigdfomoplchaaQvGiv
set_option linter.unusedSimpArgs false
set_option linter.unusedVariables false
set_option linter.unusedSectionVars false
namespace Go.Q
variable [Link]

section
variable {w w' : World} {X X' : Nat → Prop} {ι ι' : Nat → Nat} {σ σ' : Sto} {n n' lk : Nat}

/-- A tree with no rows in it stands whatever is owned. -/
theorem flat_rep {v : V} {u : Value} (h : Rep w X ι n v u) (hf : flat v = true) : Rep w X' ι' n' v u := by
  have key : ∀ cs : List V, flatL cs = true → ∀ (i : Nat) (e : V), cs[i]? = some e → flat e = true := by
    intro cs
    induction cs with
    | nil => intro _ i e he; simp at he
    | cons c cs ih =>
      intro h i e he
      simp only [flatL, Bool.and_eq_true] at h
      cases i with
      | zero => simp at he; subst he; exact h.1
      | succ i => exact ih h.2 i e (by simpa using he)
  induction h with
  | int k m => exact .int k m
  | bool b => exact .bool b
  | str s => exact .str s
  | nilS => exact .nilS
  | sl => simp [flat] at hf
  | slE => simp [flat] at hf
  | ref => simp [flat] at hf
  | agg cs us hl hr ih => exact .agg cs us hl (fun i e u he hu => ih i e u he hu (key cs (by simpa only [flat] using hf) i e he))
  | tup cs us hl hr ih => exact .tup cs us hl (fun i e u he hu => ih i e u he hu (key cs (by simpa only [flat] using hf) i e he))
  | nilP => exact .nilP
  | ptr => simp [flat] at hf
  | box => simp [flat] at hf
  | fn f cs us hl hr ih => exact .fn f cs us hl (fun i e u he hu => ih i e u he hu (key cs (by simpa only [flat] using hf) i e he))
  | yld => simp [flat] at hf
  | nilF => exact .nilF
  | iface t x u hr ih => exact .iface t x u (ih (by simpa only [flat] using hf))
  | nilI => exact .nilI
  | undef => exact .undef

/-- What a function called on trees leaves behind. -/
def Back (m : Mode) (w w' : World) (X0 : Nat → Prop) (r : V) (u : Value) : Prop :=
  ∃ X1 ι1 σ1 n1 v, WF w' X1 ι1 σ1 n1 ∧ Rep w' X1 ι1 n1 v u ∧ back m σ1 v r ∧ Ext w w' X0 X1 (fun _ => 0) ι1 Sto.empty σ1 0 n1 0

theorem dropL_nil (σ : Sto) : dropL σ [] = σ := by funext id; simp [dropL]

theorem call_back (hw : WF w X ι σ n) (hl : lk ≤ n) {D D0 : List Nat} {m : Mode} {r : V} {u : Value} (hD : D = if flat r then [] else D0) (hlk : ∀ id ∈ D, lk ≤ id)
    (hb : Back m w w' (cutX X ι σ D0) r u) :
    ∃ X' ι', WF w' X' ι' (thaw (dropL σ D) n r).2.1 (thaw (dropL σ D) n r).2.2 ∧ Rep w' X' ι' (thaw (dropL σ D) n r).2.2 (thaw (dropL σ D) n r).1 u ∧
      Ext w w' X X' ι ι' σ (thaw (dropL σ D) n r).2.1 n (thaw (dropL σ D) n r).2.2 lk := by
  obtain ⟨X1, ι1, σ1, n1, v, hw1, hr1, hback, he⟩ := hb
  have hnoown : ∀ b, ¬ Own Sto.empty (fun _ => 0) 0 b := fun b h => by obtain ⟨id, _, h1, _⟩ := h; exact h1 rfl
  have hheap : ∀ b, b < w.heap.size → w'.heap[b]? = w.heap[b]? := fun b hb => he.heap b hb (hnoown b)
  have hX1 : ∀ b, cutX X ι σ D0 b → X1 b := fun b hb => he.xold b hb (hnoown b)
  have hnew : ∀ id, σ1 id ≠ none → w.heap.size ≤ ι1 id := fun id h => by
    by_cases hlt : ι1 id < w.heap.size
    · exact absurd (he.own id (Nat.zero_le _) h hlt) (hnoown _)
    · omega
  have hsub : ∀ id ∈ D, id ∈ D0 := fun id h => by
    rw [hD] at h
    split at h
    · cases h
    · exact h
  have hcut : ∀ b, cutX X ι σ D0 b → cutX X ι σ D b := fun b h => ⟨h.1, fun id hid => h.2 id (hsub id hid)⟩
  have hcutlt : ∀ b, cutX X ι σ D b → b < w.heap.size := fun b h => hw.xlt b h.1
  have hw0 := dropL_wf hw D
  -- the caller's own state, with blocks of its own in Xf
  have fin : ∀ (G : List Nat) (Xf : Nat → Prop) (ι' : Nat → Nat), (∀ g ∈ G, σ1 g ≠ none) → (∀ b, Xf b ↔ cutX X ι σ D b ∨ ∃ g ∈ G, ι1 g = b) →
      Thr w' Xf ι1 G (dropL σ D) n ι (thaw (dropL σ D) n r).2.1 (thaw (dropL σ D) n r).2.2 ι' →
      Ext w w' X Xf ι ι' σ (thaw (dropL σ D) n r).2.1 n (thaw (dropL σ D) n r).2.2 lk := by
    intro G Xf ι' hG hXf ht
    have hblk : ∀ g ∈ G, w.heap.size ≤ ι1 g := fun g hg => hnew g (hG g hg)
    refine ⟨ht.le, he.os, he.tape, he.output, he.size, fun b hb _ => hheap b hb, he.cells, he.loops, ht.ix, ?_, ?_, hw.xlt, ?_, ?_⟩
    · intro b hb hx
      rcases (hXf b).1 hx with h | ⟨g, hg, e⟩
      · exact h.1
      · have := hblk g hg; omega
    · intro b hx ho
      refine (hXf b).2 (.inl ⟨hx, fun id hid hs e => ho ⟨id, hlk id hid, hs, e⟩⟩)
    · intro id hid hs hlt
      by_cases hn : id < n
      · rw [ht.old id hn] at hs
        refine ⟨id, hid, ?_, (ht.ix id hn).symm⟩
        intro h0
        simp only [dropL, h0, ite_self] at hs
        exact hs rfl
      · obtain ⟨g, hg, e⟩ := ht.new id (by omega) hs
        have := hblk g hg
        omega
    · intro id hid
      rw [ht.old id (by omega)]
      have : id ∉ D := fun h => by have := hlk id h; omega
      simp [dropL, this]
  have hmv : ∀ {Xf : Nat → Prop}, (∀ b, b < w.heap.size → (Xf b ↔ cutX X ι σ D b)) → (∀ b, Xf b → b < w'.heap.size) → WF w' Xf ι (dropL σ D) n := fun h1 h2 =>
    hw0.move he.size hheap (fun _ _ => rfl) h1 (Nat.le_refl _) h2
  by_cases hm : m = .own
  · subst hm
    simp only [back] at hback
    obtain ⟨hg, hnd⟩ := hback
    have hlive := giv_live _ _ _ hg
    have hXf : ∀ b, b < w.heap.size → ((cutX X ι σ D b ∨ ∃ g ∈ gids σ1 DEEP v, ι1 g = b) ↔ cutX X ι σ D b) := fun b hb =>
      ⟨fun h => h.resolve_right (fun ⟨g, hg, e⟩ => by have := hnew g (hlive g hg); omega), .inl⟩
    have hlt : ∀ b, (cutX X ι σ D b ∨ ∃ g ∈ gids σ1 DEEP v, ι1 g = b) → b < w'.heap.size := fun b h => by
      rcases h with h | ⟨g, hg, e⟩
      · exact Nat.lt_of_lt_of_le (hcutlt b h) he.size
      · exact e ▸ hw1.xlt _ (hw1.own g (hlive g hg))
    have hfl : flat r = true ∨ ∀ b, (cutX X ι σ D b ∨ ∃ g ∈ gids σ1 DEEP v, ι1 g = b) → X1 b := by
      cases hf : flat r with
      | true => exact .inl rfl
      | false =>
        right
        intro b h
        have hDD : D = D0 := by rw [hD, hf]; simp
        rcases h with h | ⟨g, hg, e⟩
        · exact hX1 b (hDD ▸ h)
        · exact e ▸ hw1.own g (hlive g hg)
    obtain ⟨ι', ht, hrep, -⟩ := giv_ok (Xf := fun b => cutX X ι σ D b ∨ ∃ g ∈ gids σ1 DEEP v, ι1 g = b) hw1 DEEP v r u hg hfl hr1 (fun g hg => .inr ⟨g, hg, rfl⟩) hnd (dropL σ D) n ι
      (hmv hXf hlt) (fun g hg id hs e => by
        have h1 := hcutlt _ (hw0.own id hs)
        have h2 := hnew g (hlive g hg)
        omega)
    exact ⟨_, ι', ht.wf, hrep, fin _ _ ι' hlive (fun b => Iff.rfl) ht⟩
  · have hfrz : frz σ1 DEEP v = some r := by
      cases m <;> simp only [back] at hback <;> first | exact hback | exact absurd rfl hm
    have hth := thaw_frz DEEP v r hfrz (dropL σ D) n
    rw [hth]
    have hrep := frz_rep (ι' := ι) (n' := n) hw1 (D := rch σ1 DEEP v) DEEP v r u hfrz hr1 (fun _ h => h)
    refine ⟨cutX X ι σ D, ι, hmv (fun _ _ => Iff.rfl) (fun b h => Nat.lt_of_lt_of_le (hcutlt b h) he.size), ?_, ?_⟩
    · cases hf : flat r with
      | true => exact flat_rep hrep hf
      | false =>
        have hDD : D = D0 := by rw [hD, hf]; simp
        refine hrep.move (Nat.le_refl _) (fun _ _ _ => rfl) (fun _ c _ _ h => ⟨c, h, rfl⟩) (fun _ _ => rfl) (fun b _ h => ?_) (Nat.le_refl _)
        rw [hDD] at h
        refine ⟨hX1 b h, fun id hid hs e => ?_⟩
        have h1 := hnew id hs
        have h2 := hw.xlt b h.1
        omega
    · have ht : Thr w' (cutX X ι σ D) ι1 [] (dropL σ D) n ι (dropL σ D) n ι := Thr.refl (hmv (fun _ _ => Iff.rfl) (fun b h => Nat.lt_of_lt_of_le (hcutlt b h) he.size))
      have := fin [] (cutX X ι σ D) ι (by simp) (by simp) (by rw [hth]; exact ht)
      rwa [hth] at this

/-- Arguments read out as trees. -/
theorem args_frz (hw : WF w X ι σ n) {args ts : List V} {us : Array Value} (h : args.mapM (frz σ DEEP) = some ts) (hs : us.size = args.length)
    (hr : ∀ (i : Nat) (e : V) (u : Value), args[i]? = some e → us[i]? = some u → Rep w X ι n e u) :
    us.size = ts.length ∧ ∀ (i : Nat) (e : V) (u : Value), ts[i]? = some e → us[i]? = some u → Rep w (cutX X ι σ (args.flatMap (rch σ DEEP))) (fun _ => 0) 0 e u := by
  refine ⟨hs.trans (mapM_get' _ _ _ h).1, fun i e u he hu => ?_⟩
  obtain ⟨a, ha, hf⟩ := mapM_back h he
  exact frz_rep hw DEEP a e u hf (hr i a u ha hu) (fun id hid => List.mem_flatMap.2 ⟨a, List.mem_of_getElem? ha, hid⟩)

end
end Go.Q
