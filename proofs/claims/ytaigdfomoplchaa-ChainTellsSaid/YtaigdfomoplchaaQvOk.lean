/- Which objects values speak of: an operation speaks of no others than its operands, its store, and what it lays. -/
import Derived.Test.YtaigdfomoplchaaQvCall
set_option linter.unusedSimpArgs false
set_option linter.unusedVariables false
set_option linter.unusedSectionVars false
namespace Go.Q
variable [Link]

inductive Ok : (Nat → Prop) → V → Prop
  | int {K : Nat → Prop} (k : IntKind) (m : Int) : Ok K (.int k m)
  | bool {K : Nat → Prop} (b : Bool) : Ok K (.bool b)
  | str {K : Nat → Prop} (s : ByteArray) : Ok K (.str s)
  | nilS {K : Nat → Prop} : Ok K .nilS
  | sl {K : Nat → Prop} (sz : Nat) (xs : List V) (h : ∀ (i : Nat) (x : V), xs[i]? = some x → Ok (fun _ => False) x) : Ok K (.sl sz xs)
  | ref {K : Nat → Prop} (id off len sz : Nat) (h : K id) : Ok K (.ref id off len sz)
  | agg {K : Nat → Prop} (cs : List V) (h : ∀ (i : Nat) (e : V), cs[i]? = some e → Ok K e) : Ok K (.agg cs)
  | tup {K : Nat → Prop} (cs : List V) (h : ∀ (i : Nat) (e : V), cs[i]? = some e → Ok K e) : Ok K (.tup cs)
  | nilP {K : Nat → Prop} : Ok K .nilP
  | ptr {K : Nat → Prop} (id sz i j : Nat) (h : K id) : Ok K (.ptr id sz i j)
  | box {K : Nat → Prop} (cs : List V) (h : ∀ (i : Nat) (e : V), cs[i]? = some e → Ok (fun _ => False) e) : Ok K (.box cs)
  | fn {K : Nat → Prop} (f : Nat) (cs : List V) (h : ∀ (i : Nat) (e : V), cs[i]? = some e → Ok K e) : Ok K (.fn f cs)
  | yld {K : Nat → Prop} (l : Nat) (h : K l) : Ok K (.yld l)
  | nilF {K : Nat → Prop} : Ok K .nilF
  | iface {K : Nat → Prop} (t : Nat) (x : V) (h : Ok K x) : Ok K (.iface t x)
  | nilI {K : Nat → Prop} : Ok K .nilI
  | undef {K : Nat → Prop} : Ok K .undef

section
variable {K K' : Nat → Prop}

theorem Ok.mono (hk : ∀ id, K id → K' id) {v : V} (h : Ok K v) : Ok K' v := by
  induction h generalizing K' with
  | int k m => exact .int k m
  | bool b => exact .bool b
  | str s => exact .str s
  | nilS => exact .nilS
  | sl sz xs h ih => exact .sl sz xs h
  | ref id off len sz h => exact .ref id off len sz (hk id h)
  | agg cs h ih => exact .agg cs (fun i e he => ih i e he hk)
  | tup cs h ih => exact .tup cs (fun i e he => ih i e he hk)
  | nilP => exact .nilP
  | ptr id sz i j h => exact .ptr id sz i j (hk id h)
  | box cs h ih => exact .box cs h
  | fn f cs h ih => exact .fn f cs (fun i e he => ih i e he hk)
  | yld l h => exact .yld l (hk l h)
  | nilF => exact .nilF
  | iface t x h ih => exact .iface t x (ih hk)
  | nilI => exact .nilI
  | undef => exact .undef

theorem Ok.none {v : V} (h : Ok (fun _ => False) v) : Ok K v := h.mono (fun _ h => h.elim)

theorem ok_of_cells {v : V} (h : ∀ (j : Nat) (e : V), v.cells[j]? = some e → Ok K e) : Ok K v := by
  by_cases ha : ∃ cs, v = .agg cs
  · obtain ⟨cs, rfl⟩ := ha
    exact .agg cs h
  · have hc : v.cells = [v] := not_agg_cells (fun cs e => ha ⟨cs, e⟩)
    exact h 0 v (by rw [hc]; rfl)

theorem Ok.cells {v : V} (h : Ok K v) : ∀ (j : Nat) (e : V), v.cells[j]? = some e → Ok K e := by
  cases v <;> simp only [V.cells] <;> intro j e he <;> try (cases j with
    | zero => simp at he; subst he; exact h
    | succ j => simp at he)
  cases h with
  | agg _ h => exact h j e he

/-- What the store's objects speak of. -/
def OkS (K : Nat → Prop) (σ : Sto) : Prop :=
  (∀ id sz xs, σ id = some (.row sz xs) → ∀ (i : Nat) (x : V), xs[i]? = some x → Ok K x) ∧
  (∀ id env ps a b st pend, σ id = some (.loop env ps a b st pend) → ∀ t, Ok K (env t))

theorem OkS.mono (hk : ∀ id, K id → K' id) {σ : Sto} (h : OkS K σ) : OkS K' σ :=
  ⟨fun id sz xs hs i x hx => (h.1 id sz xs hs i x hx).mono hk, fun id env ps a b st pend hs t => (h.2 id env ps a b st pend hs t).mono hk⟩

def More (K : Nat → Prop) (n n' : Nat) : Nat → Prop := fun id => K id ∨ (n ≤ id ∧ id < n')

theorem more_sub {n n' : Nat} : ∀ id, K id → More K n n' id := fun _ h => .inl h

theorem OkS.upd_row {σ : Sto} (h : OkS K σ) {id sz : Nat} {xs : List V} (hx : ∀ (i : Nat) (x : V), xs[i]? = some x → Ok K x) : OkS K (upd σ id (some (.row sz xs))) := by
  refine ⟨fun id' sz' ys hs => ?_, fun id' env ps a b st pend hs => ?_⟩
  · by_cases e : id' = id
    · subst e
      simp only [upd, if_true, Option.some.injEq, Ob.row.injEq] at hs
      obtain ⟨rfl, rfl⟩ := hs
      exact hx
    · simp only [upd, e, if_false] at hs; exact h.1 id' sz' ys hs
  · by_cases e : id' = id
    · subst e; simp [upd] at hs
    · simp only [upd, e, if_false] at hs; exact h.2 id' env ps a b st pend hs

theorem OkS.upd_none {σ : Sto} (h : OkS K σ) {id : Nat} : OkS K (upd σ id none) := by
  refine ⟨fun id' sz' ys hs => ?_, fun id' env ps a b st pend hs => ?_⟩
  · by_cases e : id' = id
    · subst e; simp [upd] at hs
    · simp only [upd, e, if_false] at hs; exact h.1 id' sz' ys hs
  · by_cases e : id' = id
    · subst e; simp [upd] at hs
    · simp only [upd, e, if_false] at hs; exact h.2 id' env ps a b st pend hs

theorem OkS.drop {σ : Sto} (h : OkS K σ) (D : List Nat) : OkS K (dropL σ D) := by
  refine ⟨fun id' sz' ys hs => ?_, fun id' env ps a b st pend hs => ?_⟩ <;> unfold dropL at hs <;> split at hs <;> first | cases hs | skip
  · exact h.1 id' sz' ys hs
  · exact h.2 id' env ps a b st pend hs

theorem ok_loadC {b : Bool} {s : Nat} {cs : List V} {v : V} (hc : ∀ (j : Nat) (e : V), cs[j]? = some e → Ok K e) (h : loadC b s cs = some v) : Ok K v := by
  unfold loadC at h
  split at h
  · split at h
    · simp only [Option.some.injEq] at h; subst h
      refine .agg _ (fun i e he => ?_)
      rw [List.getElem?_take] at he
      split at he
      · exact hc i e he
      · cases he
    · cases h
  · rw [List.head?_eq_getElem?] at h
    exact hc 0 v h

theorem ok_drop {cs : List V} {k : Nat} (hc : ∀ (j : Nat) (e : V), cs[j]? = some e → Ok K e) : ∀ (j : Nat) (e : V), (cs.drop k)[j]? = some e → Ok K e := fun j e he => by
  rw [List.getElem?_drop] at he; exact hc _ e he

theorem ok_take {cs : List V} {k : Nat} (hc : ∀ (j : Nat) (e : V), cs[j]? = some e → Ok K e) : ∀ (j : Nat) (e : V), (cs.take k)[j]? = some e → Ok K e := fun j e he => by
  rw [List.getElem?_take] at he
  split at he
  · exact hc _ e he
  · cases he

theorem ok_append {cs ds : List V} (hc : ∀ (j : Nat) (e : V), cs[j]? = some e → Ok K e) (hd : ∀ (j : Nat) (e : V), ds[j]? = some e → Ok K e) :
    ∀ (j : Nat) (e : V), (cs ++ ds)[j]? = some e → Ok K e := fun j e he => by
  rw [List.getElem?_append] at he
  split at he
  · exact hc _ e he
  · exact hd _ e he

theorem ok_mem {cs : List V} : (∀ (j : Nat) (e : V), cs[j]? = some e → Ok K e) ↔ ∀ e ∈ cs, Ok K e :=
  ⟨fun h e he => let ⟨i, hi, e'⟩ := List.getElem_of_mem he; h i e (by rw [List.getElem?_eq_getElem hi, e']), fun h j e he => h e (List.mem_of_getElem? he)⟩

theorem ok_pureV {s : Sem Value} {v : V} (h : pureV s = some v) : Ok K v := by
  unfold pureV at h
  split at h <;> simp at h <;> subst h <;> constructor

theorem ok_binV {op : BinOp} {x y v : V} (h : binV op x y = some v) : Ok K v := by
  unfold binV at h
  split at h <;> first | exact ok_pureV h | cases h

theorem ok_unV {op : UnOp} {x v : V} (h : unV op x = some v) : Ok K v := by
  unfold unV at h
  split at h <;> first | exact ok_pureV h | cases h

theorem ok_foldlM {f : V → V → Option V} (hf : ∀ a b c, f a b = some c → Ok K c) : ∀ (l : List V) (x v : V), Ok K x → l.foldlM f x = some v → Ok K v
  | [], x, v, hx, h => by simp at h; subst h; exact hx
  | y :: l, x, v, hx, h => by
    simp only [List.foldlM_cons, Option.bind_eq_bind, Option.bind_eq_some_iff] at h
    obtain ⟨z, hz, h⟩ := h
    exact ok_foldlM hf l z v (hf _ _ _ hz) h

theorem ok_parts {ρ : Opd → V} : ∀ (ps : List (Nat × Nat × Opd)) (z cs : List V), (∀ p ∈ ps, Ok K (ρ p.2.2)) → (∀ (j : Nat) (e : V), z[j]? = some e → Ok K e) → partsOf ρ z ps = some cs →
    ∀ (j : Nat) (e : V), cs[j]? = some e → Ok K e
  | [], z, cs, _, hz, h => by simp [partsOf] at h; subst h; exact hz
  | (off, size, x) :: ps, z, cs, hp, hz, h => by
    simp only [partsOf] at h
    split at h
    · exact ok_parts ps _ cs (fun p hp' => hp p (List.mem_cons_of_mem _ hp')) (ok_append (ok_append (ok_take hz) (Ok.cells (hp (off, size, x) (by simp)))) (ok_drop hz)) h
    · cases h

theorem ok_elems {σ : Sto} (hs : OkS K σ) {sz : Nat} {v : V} {xs : List V} (hv : Ok K v) (h : elems σ sz v = some xs) : ∀ (j : Nat) (e : V), xs[j]? = some e → Ok K e := by
  unfold elems at h
  split at h
  · simp at h; subst h; simp
  · split at h
    · simp only [Option.some.injEq] at h; subst h
      cases hv with
      | sl _ _ hv => exact fun j e he => (hv j e he).none
    · cases h
  · split at h
    · rename_i hrow
      split at h
      · simp only [Option.some.injEq] at h; subst h
        exact ok_take (ok_drop (fun j e he => hs.1 _ _ _ hrow j e he))
      · cases h
    · cases h
  · cases h

end

section
variable {w w' : World} {X X' : Nat → Prop} {ι ι' : Nat → Nat} {n n' : Nat} {K : Nat → Prop}

/-- What stands speaks only of what is laid. -/
theorem rep_ok {v : V} {u : Value} (h : Rep w X ι n v u) : Ok (fun id => id < n ∧ ι id < w.heap.size) v := by
  induction h with
  | int k m => exact .int k m
  | bool b => exact .bool b
  | str s => exact .str s
  | nilS => exact .nilS
  | sl sz xs b o c u hc hX hb hs hm hr ih =>
    refine .sl sz xs (fun i x hx => ok_of_cells (fun j e he => (ih i x j e hx he).mono (fun id h => by omega)))
  | slE sz c a => exact .sl sz [] (fun i x hx => by simp at hx)
  | ref id off len sz c o cells ty fz hid hc ho hm hz => exact .ref id off len sz ⟨hid, (Array.getElem?_eq_some_iff.1 hm).1⟩
  | agg cs us hl hr ih =>
    refine .agg cs (fun i e he => ?_)
    have hi : i < us.size := by have := (List.getElem?_eq_some_iff.1 he).1; omega
    exact ih i e _ he (Array.getElem?_eq_getElem hi)
  | tup cs us hl hr ih =>
    refine .tup cs (fun i e he => ?_)
    have hi : i < us.size := by have := (List.getElem?_eq_some_iff.1 he).1; omega
    exact ih i e _ he (Array.getElem?_eq_getElem hi)
  | nilP => exact .nilP
  | ptr id sz i j hid hb => exact .ptr id sz i j ⟨hid, hb⟩
  | box cs b o u hX hb h1 hm hr ih => exact .box cs (fun j e he => (ih j e he).mono (fun id h => by omega))
  | fn f cs us hl hr ih =>
    refine .fn f cs (fun i e he => ?_)
    have hi : i < us.size := by have := (List.getElem?_eq_some_iff.1 he).1; omega
    exact ih i e _ he (Array.getElem?_eq_getElem hi)
  | yld l hid hb => exact .yld l ⟨hid, hb⟩
  | nilF => exact .nilF
  | iface t x u hr ih => exact .iface t x ih
  | nilI => exact .nilI
  | undef => exact .undef

/-- The numbers of objects may stand for other blocks where a value does not speak of them. -/
theorem Rep.on {v : V} {u : Value} (h : Rep w X ι n v u) (hk : Ok K v) (hι : ∀ id, K id → ι' id = ι id) (hn : ∀ id, K id → id < n') : Rep w X ι' n' v u := by
  induction h with
  | int k m => exact .int k m
  | bool b => exact .bool b
  | str s => exact .str s
  | nilS => exact .nilS
  | sl sz xs b o c u hc hX hb hs hm hr ih => exact .sl sz xs b o c u hc hX hb hs hm (fun i x j e hx he => (hr i x j e hx he).up)
  | slE sz c a => exact .slE sz c a
  | ref id off len sz c o cells ty fz hid hc ho hm hz =>
    cases hk with
    | ref _ _ _ _ hk =>
      rw [← hι id hk] at *
      exact .ref id off len sz c o cells ty fz (hn id hk) hc ho hm hz
  | agg cs us hl hr ih => cases hk with | agg _ hk => exact .agg cs us hl (fun i e u he hu => ih i e u he hu (hk i e he))
  | tup cs us hl hr ih => cases hk with | tup _ hk => exact .tup cs us hl (fun i e u he hu => ih i e u he hu (hk i e he))
  | nilP => exact .nilP
  | ptr id sz i j hid hb =>
    cases hk with
    | ptr _ _ _ _ hk => rw [← hι id hk] at *; exact .ptr id sz i j (hn id hk) hb
  | box cs b o u hX hb h1 hm hr ih => exact .box cs b o u hX hb h1 hm (fun j e he => (hr j e he).up)
  | fn f cs us hl hr ih => cases hk with | fn _ _ hk => exact .fn f cs us hl (fun i e u he hu => ih i e u he hu (hk i e he))
  | yld l hid hb =>
    cases hk with
    | yld _ hk => rw [← hι l hk] at *; exact .yld l (hn l hk) hb
  | nilF => exact .nilF
  | iface t x u hr ih => cases hk with | iface _ _ hk => exact .iface t x u (ih hk)
  | nilI => exact .nilI
  | undef => exact .undef

end
end Go.Q
