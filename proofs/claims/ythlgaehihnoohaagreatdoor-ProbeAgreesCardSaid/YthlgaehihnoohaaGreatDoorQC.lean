/- Which objects values speak of: an operation speaks of no others than its operands, its store, and what it lays. -/
import Derived.Test.YthlgaehihnoohaaGreatDoorQB
import Derived.ChangeArms
import Derived.ChangeOld
import Derived.OpenShut
import Derived.SizedLaws
set_option linter.unusedVariables false
set_option linter.unusedSimpArgs false
set_option linter.unusedSectionVars false
set_option linter.defProp false
section
namespace Go.Q
variable [Link]
inductive Ok : (Nat → Prop) → V → Prop
 | int {K : Nat → Prop} (k : IntKind) (m : Int) : Ok K (.int k m)
 | bool {K : Nat → Prop} (b : Bool) : Ok K (.bool b)
 | str {K : Nat → Prop} (s : ByteArray) : Ok K (.str s)
 | nilS {K : Nat → Prop} : Ok K .nilS
 | sl {K : Nat → Prop} (sz : Nat) (xs : List V) (h : ∀ (i : Nat) (x : V), xs[i]? = some x → Ok (fun _ => False) x) : Ok K (.sl sz xs)
 | ref {K : Nat → Prop} (id off len sz : Nat) (h : K id) : Ok K (.ref id off len sz)
 | agg {K : Nat → Prop} (cs : List V) (h : ∀ (i : Nat) (e : V), cs[i]? = some e → Ok K e) : Ok K (.agg cs)
 | tup {K : Nat → Prop} (cs : List V) (h : ∀ (i : Nat) (e : V), cs[i]? = some e → Ok K e) : Ok K (.tup cs)
 | nilP {K : Nat → Prop} : Ok K .nilP
 | ptr {K : Nat → Prop} (id sz i j : Nat) (h : K id) : Ok K (.ptr id sz i j)
 | box {K : Nat → Prop} (cs : List V) (h : ∀ (i : Nat) (e : V), cs[i]? = some e → Ok (fun _ => False) e) : Ok K (.box cs)
 | fn {K : Nat → Prop} (f : Nat) (cs : List V) (h : ∀ (i : Nat) (e : V), cs[i]? = some e → Ok K e) : Ok K (.fn f cs)
 | bnd {K : Nat → Prop} (f : Nat) (cs : List V) (h : ∀ (i : Nat) (e : V), cs[i]? = some e → Ok K e) : Ok K (.bnd f cs)
 | yld {K : Nat → Prop} (l : Nat) (h : K l) : Ok K (.yld l)
 | nilF {K : Nat → Prop} : Ok K .nilF
 | iface {K : Nat → Prop} (t : Nat) (x : V) (h : Ok K x) : Ok K (.iface t x)
 | nilI {K : Nat → Prop} : Ok K .nilI
 | nilM {K : Nat → Prop} : Ok K .nilM
 | mp {K : Nat → Prop} (id : Nat) (h : K id) : Ok K (.mp id)
 | it {K : Nat → Prop} (id : Nat) (h : K id) : Ok K (.it id)
 | undef {K : Nat → Prop} : Ok K .undef
section
variable {K K' : Nat → Prop}
theorem Ok.mono (hk : ∀ id, K id → K' id) {v : V} (h : Ok K v) : Ok K' v := by
 induction h generalizing K' with
 | int k m => exact .int k m
 | bool b => exact .bool b
 | str s => exact .str s
 | nilS => exact .nilS
 | sl sz xs h ih => exact .sl sz xs h
 | ref id off len sz h => exact .ref id off len sz (hk id h)
 | agg cs h ih => exact .agg cs (fun i e he => ih i e he hk)
 | tup cs h ih => exact .tup cs (fun i e he => ih i e he hk)
 | nilP => exact .nilP
 | ptr id sz i j h => exact .ptr id sz i j (hk id h)
 | box cs h ih => exact .box cs h
 | fn f cs h ih => exact .fn f cs (fun i e he => ih i e he hk)
 | bnd f cs h ih => exact .bnd f cs (fun i e he => ih i e he hk)
 | yld l h => exact .yld l (hk l h)
 | nilF => exact .nilF
 | iface t x h ih => exact .iface t x (ih hk)
 | nilI => exact .nilI
 | nilM => exact .nilM
 | mp id h => exact .mp id (hk id h)
 | it id h => exact .it id (hk id h)
 | undef => exact .undef
theorem Ok.none {v : V} (h : Ok (fun _ => False) v) : Ok K v := h.mono (fun _ h => h.elim)
theorem ok_of_cells {v : V} (h : ∀ (j : Nat) (e : V), v.cells[j]? = some e → Ok K e) : Ok K v := by
 by_cases ha : ∃ cs, v = .agg cs
 ·obtain ⟨cs, rfl⟩ := ha
  exact .agg cs h
 ·have hc : v.cells = [v] := not_agg_cells (fun cs e => ha ⟨cs, e⟩)
  exact h 0 v (by rw [hc]; rfl)
theorem Ok.cells {v : V} (h : Ok K v) : ∀ (j : Nat) (e : V), v.cells[j]? = some e → Ok K e := by
 cases v <;> simp only [V.cells] <;> intro j e he <;> try (cases j with
  | zero => simp at he; subst he; exact h
  | succ j => simp at he)
 cases h with
 | agg _ h => exact h j e he
def OkO (K : Nat → Prop) : Ob → Prop
 | .map es _ => ∀ (i : Nat) (e : V × V × Nat), es[i]? = some e → Ok K e.1 ∧ Ok K e.2.1
 | .iter m _ _ _ => K m
 | _ => True
theorem OkO.mono (hk : ∀ id, K id → K' id) {o : Ob} (h : OkO K o) : OkO K' o := by
 cases o with
 | row => trivial
 | loop => trivial
 | map es clk => exact fun i e he => ⟨(h i e he).1.mono hk, (h i e he).2.mono hk⟩
 | iter m since seen last => exact hk _ h
def OkS (K : Nat → Prop) (σ : Sto) : Prop :=
 (∀ id sz xs, σ id = some (.row sz xs) → ∀ (i : Nat) (x : V), xs[i]? = some x → Ok K x) ∧
 (∀ id env ps a b st pend, σ id = some (.loop env ps a b st pend) → ∀ t, Ok K (env t)) ∧
 (∀ id o, σ id = some o → OkO K o)
theorem OkS.mono (hk : ∀ id, K id → K' id) {σ : Sto} (h : OkS K σ) : OkS K' σ :=
 ⟨fun id sz xs hs i x hx => (h.1 id sz xs hs i x hx).mono hk, fun id env ps a b st pend hs t => (h.2.1 id env ps a b st pend hs t).mono hk, fun id o hs => (h.2.2 id o hs).mono hk⟩
def More (K : Nat → Prop) (n n' : Nat) : Nat → Prop := fun id => K id ∨ (n ≤ id ∧ id < n')
theorem more_sub {n n' : Nat} : ∀ id, K id → More K n n' id := fun _ h => .inl h
theorem OkS.upd_row {σ : Sto} (h : OkS K σ) {id sz : Nat} {xs : List V} (hx : ∀ (i : Nat) (x : V), xs[i]? = some x → Ok K x) : OkS K (upd σ id (some (.row sz xs))) := by
 refine ⟨fun id' sz' ys hs => ?_, fun id' env ps a b st pend hs => ?_, fun id' o hs => by
  by_cases e : id' = id
  ·subst e
   simp only [upd, if_true, Option.some.injEq] at hs
   subst hs; trivial
  ·simp only [upd, e, if_false] at hs; exact h.2.2 id' o hs⟩
 ·by_cases e : id' = id
  ·subst e
   simp only [upd, if_true, Option.some.injEq, Ob.row.injEq] at hs
   obtain ⟨rfl, rfl⟩ := hs
   exact hx
  ·simp only [upd, e, if_false] at hs; exact h.1 id' sz' ys hs
 ·by_cases e : id' = id
  ·subst e; simp [upd] at hs
  ·simp only [upd, e, if_false] at hs; exact h.2.1 id' env ps a b st pend hs
theorem OkS.upd_obj {σ : Sto} (h : OkS K σ) {id : Nat} {o : Ob} (ho : (∀ sz xs, o ≠ .row sz xs) ∧ ∀ env ps a b st pend, o ≠ .loop env ps a b st pend) (hx : OkO K o) : OkS K (upd σ id (some o)) := by
 refine ⟨fun id' sz' ys hs => ?_, fun id' env ps a b st pend hs => ?_, fun id' o' hs => ?_⟩
 ·by_cases e : id' = id
  ·subst e
   simp only [upd, if_true, Option.some.injEq] at hs
   exact absurd hs (ho.1 _ _)
  ·simp only [upd, e, if_false] at hs; exact h.1 id' sz' ys hs
 ·by_cases e : id' = id
  ·subst e
   simp only [upd, if_true, Option.some.injEq] at hs
   exact absurd hs (ho.2 _ _ _ _ _ _)
  ·simp only [upd, e, if_false] at hs; exact h.2.1 id' env ps a b st pend hs
 ·by_cases e : id' = id
  ·subst e
   simp only [upd, if_true, Option.some.injEq] at hs
   subst hs; exact hx
  ·simp only [upd, e, if_false] at hs; exact h.2.2 id' o' hs
theorem OkS.upd_none {σ : Sto} (h : OkS K σ) {id : Nat} : OkS K (upd σ id none) := by
 refine ⟨fun id' sz' ys hs => ?_, fun id' env ps a b st pend hs => ?_, fun id' o hs => by
  by_cases e : id' = id
  ·subst e; simp [upd] at hs
  ·simp only [upd, e, if_false] at hs; exact h.2.2 id' o hs⟩
 ·by_cases e : id' = id
  ·subst e; simp [upd] at hs
  ·simp only [upd, e, if_false] at hs; exact h.1 id' sz' ys hs
 ·by_cases e : id' = id
  ·subst e; simp [upd] at hs
  ·simp only [upd, e, if_false] at hs; exact h.2.1 id' env ps a b st pend hs
theorem OkS.drop {σ : Sto} (h : OkS K σ) (D : List Nat) : OkS K (dropL σ D) := by
 refine ⟨fun id' sz' ys hs => ?_, fun id' env ps a b st pend hs => ?_, fun id' o hs => ?_⟩ <;> unfold dropL at hs <;> split at hs <;> first | cases hs | skip
 ·exact h.1 id' sz' ys hs
 ·exact h.2.1 id' env ps a b st pend hs
 ·exact h.2.2 id' o hs
theorem ok_loadC {b : Bool} {s : Nat} {cs : List V} {v : V} (hc : ∀ (j : Nat) (e : V), cs[j]? = some e → Ok K e) (h : loadC b s cs = some v) : Ok K v := by
 unfold loadC at h
 split at h
 ·split at h
  ·simp only [Option.some.injEq] at h; subst h
   refine .agg _ (fun i e he => ?_)
   rw [List.getElem?_take] at he
   split at he
   ·exact hc i e he
   ·cases he
  ·cases h
 ·rw [List.head?_eq_getElem?] at h
  exact hc 0 v h
theorem ok_drop {cs : List V} {k : Nat} (hc : ∀ (j : Nat) (e : V), cs[j]? = some e → Ok K e) : ∀ (j : Nat) (e : V), (cs.drop k)[j]? = some e → Ok K e := fun j e he => by
 rw [List.getElem?_drop] at he; exact hc _ e he
theorem ok_take {cs : List V} {k : Nat} (hc : ∀ (j : Nat) (e : V), cs[j]? = some e → Ok K e) : ∀ (j : Nat) (e : V), (cs.take k)[j]? = some e → Ok K e := fun j e he => by
 rw [List.getElem?_take] at he
 split at he
 ·exact hc _ e he
 ·cases he
theorem ok_append {cs ds : List V} (hc : ∀ (j : Nat) (e : V), cs[j]? = some e → Ok K e) (hd : ∀ (j : Nat) (e : V), ds[j]? = some e → Ok K e) :
 ∀ (j : Nat) (e : V), (cs ++ ds)[j]? = some e → Ok K e := fun j e he => by
 rw [List.getElem?_append] at he
 split at he
 ·exact hc _ e he
 ·exact hd _ e he
theorem ok_mem {cs : List V} : (∀ (j : Nat) (e : V), cs[j]? = some e → Ok K e) ↔ ∀ e ∈ cs, Ok K e :=
 ⟨fun h e he => let ⟨i, hi, e'⟩ := List.getElem_of_mem he; h i e (by rw [List.getElem?_eq_getElem hi, e']), fun h j e he => h e (List.mem_of_getElem? he)⟩
theorem ok_pureV {s : Sem Value} {v : V} (h : pureV s = some v) : Ok K v := by
 unfold pureV at h
 split at h <;> simp at h <;> subst h <;> constructor
theorem ok_binV {op : BinOp} {x y v : V} (h : binV op x y = some v) : Ok K v := by
 unfold binV at h
 split at h <;> first | exact ok_pureV h | cases h
theorem ok_unV {op : UnOp} {x v : V} (h : unV op x = some v) : Ok K v := by
 unfold unV at h
 split at h <;> first | exact ok_pureV h | cases h
theorem ok_foldlM {f : V → V → Option V} (hf : ∀ a b c, f a b = some c → Ok K c) : ∀ (l : List V) (x v : V), Ok K x → l.foldlM f x = some v → Ok K v
 | [], x, v, hx, h => by simp at h; subst h; exact hx
 | y :: l, x, v, hx, h => by
   simp only [List.foldlM_cons, Option.bind_eq_bind, Option.bind_eq_some_iff] at h
   obtain ⟨z, hz, h⟩ := h
   exact ok_foldlM hf l z v (hf _ _ _ hz) h
theorem ok_parts {ρ : Opd → V} : ∀ (ps : List (Nat × Nat × Opd)) (z cs : List V), (∀ p ∈ ps, Ok K (ρ p.2.2)) → (∀ (j : Nat) (e : V), z[j]? = some e → Ok K e) → partsOf ρ z ps = some cs →
 ∀ (j : Nat) (e : V), cs[j]? = some e → Ok K e
 | [], z, cs, _, hz, h => by simp [partsOf] at h; subst h; exact hz
 | (off, size, x) :: ps, z, cs, hp, hz, h => by
   simp only [partsOf] at h
   split at h
   ·exact ok_parts ps _ cs (fun p hp' => hp p (List.mem_cons_of_mem _ hp')) (ok_append (ok_append (ok_take hz) (Ok.cells (hp (off, size, x) (by simp)))) (ok_drop hz)) h
   ·cases h
theorem ok_elems {σ : Sto} (hs : OkS K σ) {sz : Nat} {v : V} {xs : List V} (hv : Ok K v) (h : elems σ sz v = some xs) : ∀ (j : Nat) (e : V), xs[j]? = some e → Ok K e := by
 unfold elems at h
 split at h
 ·simp at h; subst h; simp
 ·split at h
  ·simp only [Option.some.injEq] at h; subst h
   cases hv with
   | sl _ _ hv => exact fun j e he => (hv j e he).none
  ·cases h
 ·split at h
  ·rename_i hrow
   split at h
   ·simp only [Option.some.injEq] at h; subst h
    exact ok_take (ok_drop (fun j e he => hs.1 _ _ _ hrow j e he))
   ·cases h
  ·cases h
 ·cases h
end
section
variable {w w' : World} {X X' : Nat → Prop} {ι ι' : Nat → Nat} {n n' : Nat} {K : Nat → Prop}
theorem rep_ok {v : V} {u : Value} (h : Rep w X ι n v u) : Ok (fun id => id < n ∧ ι id < w.heap.size) v := by
 induction h with
 | int k m => exact .int k m
 | bool b => exact .bool b
 | str s => exact .str s
 | nilS => exact .nilS
 | sl sz xs b o c u hc hX hb hs hm hr ih =>
   refine .sl sz xs (fun i x hx => ok_of_cells (fun j e he => (ih i x j e hx he).mono (fun id h => by omega)))
 | slE sz c a => exact .sl sz [] (fun i x hx => by simp at hx)
 | ref id off len sz c o cells ty fz hid hc ho hm hz => exact .ref id off len sz ⟨hid, (Array.getElem?_eq_some_iff.1 hm).1⟩
 | agg cs us hl hr ih =>
   refine .agg cs (fun i e he => ?_)
   have hi : i < us.size := by have := (List.getElem?_eq_some_iff.1 he).1; omega
   exact ih i e _ he (Array.getElem?_eq_getElem hi)
 | tup cs us hl hr ih =>
   refine .tup cs (fun i e he => ?_)
   have hi : i < us.size := by have := (List.getElem?_eq_some_iff.1 he).1; omega
   exact ih i e _ he (Array.getElem?_eq_getElem hi)
 | nilP => exact .nilP
 | ptr id sz i j hid hb => exact .ptr id sz i j ⟨hid, hb⟩
 | box cs b o u hX hb h1 hm hr ih => exact .box cs (fun j e he => (ih j e he).mono (fun id h => by omega))
 | fn f cs us hl hr ih =>
   refine .fn f cs (fun i e he => ?_)
   have hi : i < us.size := by have := (List.getElem?_eq_some_iff.1 he).1; omega
   exact ih i e _ he (Array.getElem?_eq_getElem hi)
 | bnd f cs us hl hr ih =>
   refine .bnd f cs (fun i e he => ?_)
   have hi : i < us.size := by have := (List.getElem?_eq_some_iff.1 he).1; omega
   exact ih i e _ he (Array.getElem?_eq_getElem hi)
 | yld l hid hb => exact .yld l ⟨hid, hb⟩
 | nilF => exact .nilF
 | iface t x u hr ih => exact .iface t x ih
 | nilI => exact .nilI
 | nilM => exact .nilM
 | mp id hid hb => exact .mp id ⟨hid, hb⟩
 | it id hid hb => exact .it id ⟨hid, hb⟩
 | undef => exact .undef
theorem Rep.on {v : V} {u : Value} (h : Rep w X ι n v u) (hk : Ok K v) (hι : ∀ id, K id → ι' id = ι id) (hn : ∀ id, K id → id < n') : Rep w X ι' n' v u := by
 induction h with
 | int k m => exact .int k m
 | bool b => exact .bool b
 | str s => exact .str s
 | nilS => exact .nilS
 | sl sz xs b o c u hc hX hb hs hm hr ih => exact .sl sz xs b o c u hc hX hb hs hm (fun i x j e hx he => (hr i x j e hx he).up)
 | slE sz c a => exact .slE sz c a
 | ref id off len sz c o cells ty fz hid hc ho hm hz =>
   cases hk with
   | ref _ _ _ _ hk =>
     rw [← hι id hk] at *
     exact .ref id off len sz c o cells ty fz (hn id hk) hc ho hm hz
 | agg cs us hl hr ih => cases hk with | agg _ hk => exact .agg cs us hl (fun i e u he hu => ih i e u he hu (hk i e he))
 | tup cs us hl hr ih => cases hk with | tup _ hk => exact .tup cs us hl (fun i e u he hu => ih i e u he hu (hk i e he))
 | nilP => exact .nilP
 | ptr id sz i j hid hb =>
   cases hk with
   | ptr _ _ _ _ hk => rw [← hι id hk] at *; exact .ptr id sz i j (hn id hk) hb
 | box cs b o u hX hb h1 hm hr ih => exact .box cs b o u hX hb h1 hm (fun j e he => (hr j e he).up)
 | fn f cs us hl hr ih => cases hk with | fn _ _ hk => exact .fn f cs us hl (fun i e u he hu => ih i e u he hu (hk i e he))
 | bnd f cs us hl hr ih => cases hk with | bnd _ _ hk => exact .bnd f cs us hl (fun i e u he hu => ih i e u he hu (hk i e he))
 | yld l hid hb =>
   cases hk with
   | yld _ hk => rw [← hι l hk] at *; exact .yld l (hn l hk) hb
 | nilF => exact .nilF
 | iface t x u hr ih => cases hk with | iface _ _ hk => exact .iface t x u (ih hk)
 | nilI => exact .nilI
 | nilM => exact .nilM
 | mp id hid hb =>
   cases hk with
   | mp _ hk => rw [← hι id hk] at *; exact .mp id (hn id hk) hb
 | it id hid hb =>
   cases hk with
   | it _ hk => rw [← hι id hk] at *; exact .it id (hn id hk) hb
 | undef => exact .undef
end
end Go.Q
end

section
/- An operation speaks of no objects but those of its operands and store, and those that it lays. -/
namespace Go.Q
variable [Link]
def AI.zeros : AI → List V
 | .alloc e => [e]
 | .build z _ => z
 | .mksl _ _ e _ => [e]
 | .tas _ _ z _ => [z]
 | .mget _ _ z _ _ => [z]
 | .ment _ z _ _ => [z]
 | _ => []
section
variable {K : Nat → Prop} {ρ : Opd → V} {σ σ' : Sto} {n n' lk : Nat}
def Dom (σ σ' : Sto) (n n' : Nat) : Prop := ∀ id, σ' id ≠ none → σ id ≠ none ∨ (n ≤ id ∧ id < n')
theorem Dom.refl : Dom σ σ n n' := fun _ h => .inl h
theorem dom_upd {id : Nat} {o : Ob} (h : σ id ≠ none) : Dom σ (upd σ id (some o)) n n' := fun id' hh => by
 by_cases e : id' = id
 ·exact .inl (e ▸ h)
 ·left; simpa [upd, e] using hh
theorem dom_new {o : Ob} : Dom σ (upd σ n (some o)) n (n + 1) := fun id' hh => by
 by_cases e : id' = n
 ·right; omega
 ·left; simpa [upd, e] using hh
theorem dom_mov {id : Nat} {o : Ob} : Dom σ (upd (upd σ id none) n (some o)) n (n + 1) := fun id' hh => by
 by_cases e : id' = n
 ·right; omega
 ·left
  by_cases e' : id' = id
  ·subst e'
   exfalso
   apply hh
   simp [upd, e]
  ·simpa [upd, e, e'] using hh
def Fin (K : Nat → Prop) (σ : Sto) (n : Nat) (r : Option (V × Sto × Nat)) : Prop := ∀ v σ' n', r = some (v, σ', n') → Ok (More K n n') v ∧ OkS (More K n n') σ' ∧ Dom σ σ' n n'
def PrimSays (p : Prim) : Prop := ∀ (K : Nat → Prop) (args : List V) (σ : Sto) (n lk : Nat), (∀ x ∈ args, Ok K x) → OkS K σ → Fin K σ n (p args σ n lk)
class PrimsSay (T : Tab) : Prop where
 says : ∀ f p, T.prim f = some p → PrimSays p
theorem fin_same (hs : OkS K σ) {o : Option V} (h : ∀ v, o = some v → Ok K v) : Fin K σ n (o.map fun v => (v, σ, n)) := by
 intro v σ' n' he
 simp only [Option.map_eq_some_iff, Prod.mk.injEq] at he
 obtain ⟨v', h1, rfl, rfl, rfl⟩ := he
 exact ⟨(h v' h1).mono more_sub, hs.mono more_sub, Dom.refl⟩
theorem fin_one (hs : OkS K σ) {v : V} (h : Ok K v) : Fin K σ n (some (v, σ, n)) := by
 intro v' σ' n' he
 simp only [Option.some.injEq, Prod.mk.injEq] at he
 obtain ⟨rfl, rfl, rfl⟩ := he
 exact ⟨h.mono more_sub, hs.mono more_sub, Dom.refl⟩
theorem fin_none : Fin K σ n none := fun v σ' n' he => by cases he
theorem fin_new {v : V} {σ' : Sto} (h : Ok (More K n (n + 1)) v) (hs : OkS (More K n (n + 1)) σ') (hd : Dom σ σ' n (n + 1) := by first | exact dom_new | exact dom_mov) : Fin K σ n (some (v, σ', n + 1)) := by
 intro v' σ'' n' he
 simp only [Option.some.injEq, Prod.mk.injEq] at he
 obtain ⟨rfl, rfl, rfl⟩ := he
 exact ⟨h, hs, hd⟩
theorem fin_bind {α : Type} {o : Option α} {f : α → Option (V × Sto × Nat)} (h : ∀ a, o = some a → Fin K σ n (f a)) : Fin K σ n (o.bind f) := by
 intro v σ' n' he
 simp only [Option.bind_eq_some_iff] at he
 obtain ⟨a, ha, he⟩ := he
 exact h a ha v σ' n' he
theorem more_new : More K n (n + 1) n := .inr ⟨Nat.le_refl _, by omega⟩
theorem ok_modify {es : List (V × V × Nat)} {i : Nat} {f : V × V × Nat → V × V × Nat} (h : ∀ (j : Nat) (e : V × V × Nat), es[j]? = some e → Ok K e.1 ∧ Ok K e.2.1)
 (hf : ∀ e, Ok K e.1 ∧ Ok K e.2.1 → Ok K (f e).1 ∧ Ok K (f e).2.1) : ∀ (j : Nat) (e : V × V × Nat), (es.modify i f)[j]? = some e → Ok K e.1 ∧ Ok K e.2.1 := by
 intro j e he
 rw [List.getElem?_modify] at he
 cases hj : es[j]? with
 | none => rw [hj] at he; simp at he
 | some e0 =>
   rw [hj] at he
   by_cases hi : i = j
   ·simp [hi] at he; subst he; exact hf _ (h j e0 hj)
   ·simp [hi] at he; subst he; exact h j e0 hj
theorem ok_more {es : List (V × V × Nat)} {a : V × V × Nat} (h : ∀ (j : Nat) (e : V × V × Nat), es[j]? = some e → Ok K e.1 ∧ Ok K e.2.1) (ha : Ok K a.1 ∧ Ok K a.2.1) :
 ∀ (j : Nat) (e : V × V × Nat), (es ++ [a])[j]? = some e → Ok K e.1 ∧ Ok K e.2.1 := by
 intro j e he
 rw [List.getElem?_append] at he
 split at he
 ·exact h j e he
 ·cases hj : j - es.length with
  | zero => rw [hj] at he; simp at he; subst he; exact ha
  | succ k => rw [hj] at he; simp at he
theorem fin_map (hs : OkS K σ) {id : Nat} {o : Ob} {v : V} {es : List (V × V × Nat)} {clk : Nat} (h0 : σ id = some o) (hv : Ok K v) (hx : ∀ (j : Nat) (e : V × V × Nat), es[j]? = some e → Ok K e.1 ∧ Ok K e.2.1) :
 Fin K σ n (some (v, upd σ id (some (.map es clk)), n)) := by
 intro v' σ' n' he
 simp only [Option.some.injEq, Prod.mk.injEq] at he
 obtain ⟨rfl, rfl, rfl⟩ := he
 exact ⟨hv.mono more_sub, OkS.mono more_sub (hs.upd_obj ⟨(fun _ _ e => by cases e), (fun _ _ _ _ _ _ e => by cases e)⟩ hx), dom_upd (by rw [h0]; simp)⟩
theorem fin_same' {α : Type} (hs : OkS K σ) {o : Option α} {f : α → V} (h : ∀ a, o = some a → Ok K (f a)) : Fin K σ n (o.map fun a => (f a, σ, n)) := by
 intro v σ' n' he
 simp only [Option.map_eq_some_iff, Prod.mk.injEq] at he
 obtain ⟨a, h1, rfl, rfl, rfl⟩ := he
 exact ⟨(h a h1).mono more_sub, hs.mono more_sub, Dom.refl⟩
theorem ok_tup2 {a b : V} (ha : Ok K a) (hb : Ok K b) : Ok K (.tup [a, b]) := .tup _ (fun i e he => by
 match i with
 | 0 => simp at he; subst he; exact ha
 | 1 => simp at he; subst he; exact hb
 | i + 2 => simp at he)
theorem ev_ok {ai : AI} (hρ : ∀ x ∈ ai.opds, Ok K (ρ x)) (hz : ∀ e ∈ ai.zeros, Ok (fun _ => False) e) (hs : OkS K σ) : Fin K σ n (ev ρ σ n lk ai) := by
 cases ai <;> simp only [AI.opds, AI.zeros] at hρ hz <;> simp only [ev]
 case mov x => exact fin_one hs (hρ x (by simp))
 case pick c a b =>
  split
  ·rename_i t _
   cases t
   ·exact fin_one hs (hρ b (by simp))
   ·exact fin_one hs (hρ a (by simp))
  ·exact fin_none
 case alloc e =>
  refine fin_new (.ptr _ _ _ _ more_new) ((hs.mono more_sub).upd_row (fun i x hx => ?_))
  cases i with
  | zero => simp at hx; subst hx; exact (hz e (by simp)).none
  | succ i => simp at hx
 case box x =>
  split
  ·refine fin_new (.ptr _ _ _ _ more_new) ((hs.mono more_sub).upd_row (fun i y hy => ?_))
   cases i with
   | zero => simp at hy; subst hy; exact (hρ x (by simp)).mono more_sub
   | succ i => simp at hy
  ·exact fin_none
 case build z ps =>
  intro v σ' n' he
  simp only [Option.map_eq_some_iff, Prod.mk.injEq] at he
  obtain ⟨cs, hcs, rfl, rfl, rfl⟩ := he
  refine ⟨(Ok.agg cs (ok_parts (K := K) ps z cs (fun p hp => hρ _ (List.mem_map.2 ⟨p, hp, rfl⟩)) (fun j e he => (hz e (List.mem_of_getElem? he)).none) hcs)).mono more_sub, hs.mono more_sub, Dom.refl⟩
 case lit sz es =>
  split
  ·refine fin_new (.ref _ _ _ _ more_new) ((hs.mono more_sub).upd_row (fun i y hy => ?_))
   rw [List.getElem?_map, Option.map_eq_some_iff] at hy
   obtain ⟨x, hx, rfl⟩ := hy
   exact (hρ x (List.mem_of_getElem? hx)).mono more_sub
  ·exact fin_none
 case load b s x =>
  have hx := hρ x (by simp)
  generalize ρ x = y at hx
  split
  ·refine fin_bind (fun e he => fin_same hs (fun v hv => ?_))
   obtain ⟨ys, hrow, hget⟩ := rowAt_spec he
   exact ok_loadC (ok_drop (Ok.cells (hs.1 _ _ _ hrow _ _ hget))) hv
  ·cases hx with
   | box cs hb => exact fin_same hs (fun v hv => ok_loadC (fun j e he => (hb j e he).none) hv)
  ·exact fin_none
 case store s x v =>
  have hv := hρ v (by simp)
  split
  ·split
   ·split
    ·rename_i hrow _ _ hget
     split
     ·intro v' σ' n' he
      simp only [Option.some.injEq, Prod.mk.injEq] at he
      obtain ⟨rfl, rfl, rfl⟩ := he
      refine ⟨.undef, (hs.upd_row (fun i y hy => ?_)).mono more_sub, dom_upd (by rw [hrow]; simp)⟩
      rw [List.getElem?_set] at hy
      split at hy
      ·split at hy
       ·simp only [Option.some.injEq] at hy; subst hy
        unfold spliceC
        split
        ·refine .agg _ (ok_append (ok_append (ok_take ?_) (Ok.cells hv)) (ok_drop ?_)) <;>
          (have := hs.1 _ _ _ hrow _ _ hget; exact Ok.cells this)
        ·split
         ·rename_i c hc
          exact Ok.cells hv 0 c (by rw [hc]; rfl)
         ·exact .agg _ (Ok.cells hv)
       ·cases hy
      ·exact hs.1 _ _ _ hrow i y hy
     ·exact fin_none
    ·exact fin_none
   ·exact fin_none
  ·exact fin_none
 case nilck x =>
  have hx := hρ x (by simp)
  generalize ρ x = y at hx
  split <;> first | exact fin_one hs hx | exact fin_none
 case bin op x y => exact fin_same hs (fun v hv => ok_binV hv)
 case eqB neg x y => split <;> first | exact fin_one hs (.bool _) | exact fin_none
 case eqA neg ks x y =>
  split
  ·intro v σ' n' he
   simp only [Option.map_eq_some_iff, Prod.mk.injEq] at he
   obtain ⟨b, _, rfl, rfl, rfl⟩ := he
   exact ⟨.bool _, hs.mono more_sub, Dom.refl⟩
  ·exact fin_none
 case eqN neg x => split <;> first | exact fin_one hs (.bool _) | exact fin_none
 case eqF neg x => split <;> first | exact fin_one hs (.bool _) | exact fin_none
 case un op x => exact fin_same hs (fun v hv => ok_unV hv)
 case conv k x => split <;> first | exact fin_one hs (.int _ _) | exact fin_none
 case mkfn f es =>
  refine fin_one hs (.fn _ _ (fun i e he => ?_))
  rw [List.getElem?_map, Option.map_eq_some_iff] at he
  obtain ⟨x, hx, rfl⟩ := he
  exact hρ x (List.mem_of_getElem? hx)
 case mkbnd f es =>
  refine fin_one hs (.bnd _ _ (fun i e he => ?_))
  rw [List.getElem?_map, Option.map_eq_some_iff] at he
  obtain ⟨x, hx, rfl⟩ := he
  exact hρ x (List.mem_of_getElem? hx)
 case mksl sz bytes e len =>
  split
  ·split
   ·refine fin_new (.ref _ _ _ _ more_new) ((hs.mono more_sub).upd_row (fun i y hy => ?_))
    rw [List.getElem?_replicate] at hy
    split at hy
    ·simp only [Option.some.injEq] at hy; subst hy; exact (hz e (by simp)).none
    ·cases hy
   ·exact fin_none
  ·exact fin_none
 case slice sz x lo hi =>
  have hx := hρ x (by simp)
  generalize ρ x = y at hx
  split
  ·refine fin_bind (fun h _ => fin_bind (fun l _ => ?_))
   split
   ·exact fin_one hs .nilS
   ·exact fin_none
  ·refine fin_bind (fun h _ => fin_bind (fun l _ => ?_))
   split
   ·cases hx with
    | sl _ _ hx => exact fin_one hs (.sl _ _ (ok_drop (ok_take hx)))
   ·exact fin_none
  ·refine fin_bind (fun h _ => fin_bind (fun l _ => ?_))
   split
   ·cases hx with
    | ref _ _ _ _ hx => exact fin_one hs (.ref _ _ _ _ hx)
   ·exact fin_none
  ·exact fin_none
 case sliceS x lo hi =>
  split
  ·exact fin_bind (fun h _ => fin_bind (fun l _ => fin_one hs (.str _)))
  ·exact fin_none
 case faddr x off =>
  have hx := hρ x (by simp)
  generalize ρ x = y at hx
  split
  ·cases hx with
   | ptr _ _ _ _ hx => exact fin_one hs (.ptr _ _ _ _ hx)
  ·cases hx with
   | box _ hx => exact fin_one hs (.box _ (ok_drop hx))
  ·exact fin_none
 case fld b s off x =>
  have hx := hρ x (by simp)
  generalize ρ x = y at hx
  split
  ·cases hx with
   | agg _ hx => exact fin_same hs (fun v hv => ok_loadC (ok_drop hx) hv)
  ·exact fin_none
 case iaddr sz x i =>
  have hx := hρ x (by simp)
  generalize ρ x = y at hx
  split
  ·split
   ·intro v σ' n' he
    simp only [Option.map_eq_some_iff, Prod.mk.injEq] at he
    obtain ⟨e, hget, rfl, rfl, rfl⟩ := he
    cases hx with
    | sl _ _ hx => exact ⟨.box _ (Ok.cells (hx _ _ hget)), hs.mono more_sub, Dom.refl⟩
   ·exact fin_none
  ·split
   ·cases hx with
    | ref _ _ _ _ hx => exact fin_one hs (.ptr _ _ _ _ hx)
   ·exact fin_none
  ·exact fin_none
 case iaddrA m es x i =>
  have hx := hρ x (by simp)
  generalize ρ x = y at hx
  split
  ·split
   ·cases hx with
    | ptr _ _ _ _ hx => exact fin_one hs (.ptr _ _ _ _ hx)
   ·exact fin_none
  ·split
   ·cases hx with
    | box _ hx => exact fin_one hs (.box _ (ok_drop hx))
   ·exact fin_none
  ·exact fin_none
 case idxA b m es x i =>
  have hx := hρ x (by simp)
  generalize ρ x = y at hx
  split
  ·split
   ·cases hx with
    | agg _ hx => exact fin_same hs (fun v hv => ok_loadC (ok_drop hx) hv)
   ·exact fin_none
  ·exact fin_none
 case idxS x i =>
  split
  ·split
   ·intro v σ' n' he
    simp only [Option.map_eq_some_iff, Prod.mk.injEq] at he
    obtain ⟨e, hget, rfl, rfl, rfl⟩ := he
    exact ⟨.int _ _, hs.mono more_sub, Dom.refl⟩
   ·exact fin_none
  ·exact fin_none
 case ext x i =>
  have hx := hρ x (by simp)
  generalize ρ x = y at hx
  split
  ·cases hx with
   | tup _ hx => exact fin_same hs (fun v hv => hx _ _ hv)
  ·exact fin_none
 case len x =>
  intro v σ' n' he
  simp only [Option.map_eq_some_iff, Prod.mk.injEq] at he
  obtain ⟨l, _, rfl, rfl, rfl⟩ := he
  exact ⟨.int _ _, hs.mono more_sub, Dom.refl⟩
 case lenS x => split <;> first | exact fin_one hs (.int _ _) | exact fin_none
 case min es =>
  split
  ·rename_i x ys hxs
   refine fin_same hs (fun v hv => ok_foldlM (fun a b c hc => ?_) ys x v ?_ hv)
   ·unfold minV at hc; split at hc
    ·simp only [Option.some.injEq] at hc; subst hc; exact .int _ _
    ·cases hc
   ·have : x ∈ es.map ρ := by rw [hxs]; simp
    obtain ⟨y, hy, rfl⟩ := List.mem_map.1 this
    exact hρ y hy
  ·exact fin_none
 case max es =>
  split
  ·rename_i x ys hxs
   refine fin_same hs (fun v hv => ok_foldlM (fun a b c hc => ?_) ys x v ?_ hv)
   ·unfold maxV at hc; split at hc
    ·simp only [Option.some.injEq] at hc; subst hc; exact .int _ _
    ·cases hc
   ·have : x ∈ es.map ρ := by rw [hxs]; simp
    obtain ⟨y, hy, rfl⟩ := List.mem_map.1 this
    exact hρ y hy
  ·exact fin_none
 case append sz bytes x y =>
  have hy := hρ y (by simp)
  split
  ·exact fin_none
  ·rename_i ys hys
   have hel := ok_elems hs hy hys
   split
   ·split
    ·exact fin_one hs .nilS
    ·split
     ·exact fin_new (.ref _ _ _ _ more_new) ((hs.mono more_sub).upd_row (fun i z hz => (hel i z hz).mono more_sub))
     ·exact fin_none
   ·split
    ·rename_i hrow
     split
     ·exact fin_new (.ref _ _ _ _ more_new) (((hs.upd_none).mono more_sub).upd_row (ok_append (ok_take (fun i z hz => (hs.1 _ _ _ hrow i z hz).mono more_sub)) (fun i z hz => (hel i z hz).mono more_sub)))
     ·exact fin_none
    ·exact fin_none
   ·exact fin_none
 case mkif t x => exact fin_one hs (.iface _ _ (hρ x (by simp)))
 case call => exact fin_none
 case callv => exact fin_none
 case inv => exact fin_none
 case next => exact fin_none
 case prim => exact fin_none
 case mkmap => exact fin_new (.mp _ more_new) ((hs.mono more_sub).upd_obj ⟨(fun _ _ e => by cases e), (fun _ _ _ _ _ _ e => by cases e)⟩ (fun i e he => by simp at he))
 case mupd kk m k x =>
  have hk := hρ k (by simp)
  have hx := hρ x (by simp)
  split
  ·split
   ·rename_i es clk h0
    have hes := hs.2.2 _ _ h0
    split
    ·intro v σ' n' he
     simp only [Option.map_eq_some_iff] at he
     obtain ⟨r, -, he⟩ := he
     split at he
     ·exact fin_map hs h0 .undef (ok_modify hes (fun e _ => ⟨hk, hx⟩)) v σ' n' (by rw [he])
     ·exact fin_map hs h0 .undef (ok_more hes ⟨hk, hx⟩) v σ' n' (by rw [he])
    ·exact fin_none
   ·exact fin_none
  ·exact fin_none
 case mget ok kk z m k =>
  have hm := hρ m (by simp)
  have hz' : Ok K z := (hz z (by simp)).none
  refine fin_bind (fun es hes => ?_)
  have hall : ∀ (j : Nat) (e : V × V × Nat), es[j]? = some e → Ok K e.1 ∧ Ok K e.2.1 := by
   unfold mapOf at hes
   split at hes
   ·simp only [Option.some.injEq] at hes; subst hes; simp
   ·split at hes
    ·rename_i h0
     simp only [Option.some.injEq] at hes; subst hes
     exact hs.2.2 _ _ h0
    ·cases hes
   ·cases hes
  split
  ·refine fin_bind (fun r hr => ?_)
   split
   ·intro v σ' n' he
    simp only [Option.map_eq_some_iff, Prod.mk.injEq] at he
    obtain ⟨e, he0, rfl, rfl, rfl⟩ := he
    have := (hall _ _ he0).2
    refine fin_one hs ?_ _ _ _ rfl
    cases ok
    ·exact this
    ·exact ok_tup2 this (.bool _)
   ·refine fin_one hs ?_
    cases ok
    ·exact hz'
    ·exact ok_tup2 hz' (.bool _)
  ·exact fin_none
 case ment kk z m k =>
  have hk := hρ k (by simp)
  have hz' : Ok K z := (hz z (by simp)).none
  split
  ·split
   ·rename_i es clk h0
    have hes := hs.2.2 _ _ h0
    split
    ·refine fin_bind (fun r hr => ?_)
     split
     ·intro v σ' n' he
      simp only [Option.map_eq_some_iff] at he
      obtain ⟨e, he0, he⟩ := he
      exact fin_map hs h0 (ok_tup2 (hes _ _ he0).2 (.int _ _)) (ok_modify (f := fun e => (ρ k, e.2)) hes (fun e h => ⟨hk, h.2⟩)) v σ' n' (by rw [he])
     ·exact fin_map hs h0 (ok_tup2 hz' (.int _ _)) (ok_more hes ⟨hk, hz'⟩)
    ·exact fin_none
   ·exact fin_none
  ·exact fin_none
 case mest m s x =>
  have hx := hρ x (by simp)
  split
  ·split
   ·rename_i es clk h0
    have hes := hs.2.2 _ _ h0
    split
    ·intro v σ' n' he
     simp only [Option.map_eq_some_iff] at he
     obtain ⟨i, -, he⟩ := he
     exact fin_map hs h0 .undef (ok_modify (f := fun e => (e.1, ρ x, e.2.2)) hes (fun e h => ⟨h.1, hx⟩)) v σ' n' (by rw [he])
    ·exact fin_none
   ·exact fin_none
  ·exact fin_none
 case entry it =>
  split
  ·split
   ·split
    ·rename_i es clk s h0 _
     have hes := hs.2.2 _ _ h0
     split
     ·refine fin_same' hs (fun e he => ?_)
      obtain ⟨i, hi, hie⟩ := List.getElem_of_mem (List.mem_of_find?_eq_some he)
      have := hes i e (by rw [List.getElem?_eq_getElem hi, hie])
      exact ok_tup2 this.1 this.2
     ·exact fin_none
    ·exact fin_none
   ·exact fin_none
  ·exact fin_none
 case mlen m => exact fin_same' hs (fun es _ => .int _ _)
 case mdel kk m k =>
  split
  ·split
   ·rename_i es clk h0
    have hes := hs.2.2 _ _ h0
    split
    ·intro v σ' n' he
     simp only [Option.map_eq_some_iff] at he
     obtain ⟨r, -, he⟩ := he
     split at he
     ·refine fin_map hs h0 .undef (fun j e hj => ?_) v σ' n' (by rw [he])
      rw [List.getElem?_eraseIdx] at hj
      split at hj
      ·exact hes _ _ hj
      ·exact hes _ _ hj
     ·exact fin_map hs h0 .undef hes v σ' n' (by rw [he])
    ·exact fin_none
   ·exact fin_none
  ·exact fin_none
 case range m =>
  have hm := hρ m (by simp)
  generalize ρ m = y at hm
  split
  ·cases hm with
   | mp id hid =>
     split
     ·exact fin_new (.it _ more_new) ((hs.mono more_sub).upd_obj ⟨(fun _ _ e => by cases e), (fun _ _ _ _ _ _ e => by cases e)⟩ (more_sub _ hid))
     ·exact fin_none
  ·exact fin_none
 case tas ok t z x =>
  have hx := hρ x (by simp)
  have hz0 : Ok K z := (hz z (by simp)).none
  have hp : ∀ (y : V) (b : Bool), Ok K y → Ok K (.tup [y, .bool b]) := fun y b hy => .tup _ (fun i e he => by
   match i, he with
   | 0, he => simp at he; subst he; exact hy
   | 1, he => simp at he; subst he; exact .bool _)
  generalize ρ x = y at hx
  split
  ·cases hx with
   | iface _ _ hx =>
     split
     ·cases ok
      ·exact fin_one hs hx
      ·exact fin_one hs (hp _ _ hx)
     ·split
      ·exact fin_one hs (hp _ _ hz0)
      ·exact fin_none
  ·split
   ·exact fin_one hs (hp _ _ hz0)
   ·exact fin_none
  ·exact fin_none
 case slice3 sz x lo hi mx =>
  have hx := hρ x (by simp)
  generalize ρ x = y at hx
  split
  ·split
   ·refine fin_bind (fun h _ => fin_bind (fun l _ => ?_))
    split
    ·exact fin_one hs .nilS
    ·exact fin_none
   ·refine fin_bind (fun h _ => fin_bind (fun l _ => ?_))
    split
    ·cases hx with
     | sl _ _ hx => exact fin_one hs (.sl _ _ (ok_drop (ok_take hx)))
    ·exact fin_none
   ·refine fin_bind (fun h _ => fin_bind (fun l _ => ?_))
    split
    ·cases hx with
     | ref _ _ _ _ hx => exact fin_one hs (.ref _ _ _ _ hx)
    ·exact fin_none
   ·exact fin_none
  ·exact fin_none
end
end Go.Q
end

section
/- What the evaluator says of a call, the machine does. -/
namespace Go.Q
def TabOf [Glob] (P : Program) (T : Tab) : Prop := (∀ f fn, T.fn f = some fn → ∃ F, P.funcs[f]? = some F ∧ cFunc P (ownB T) F = some fn ∧ (F.name == "runtime.NumGoroutine") = false) ∧
 ∀ f p, T.prim f = some p → Ent P f ∧ PrimOk P f p ∧ PrimSays p
section
variable [Glob] {P : Program} {T : Tab} [PrimsOk P T]
theorem cFunc_spec {F : Func} {fn : Fn} (h : cFunc P (ownB T) F = some fn) : ∃ c, F.body = some c ∧ cCode P F.ntmps (ownB T) c = some fn.body ∧
 F.results.toList.mapM (cRes P) = some fn.res ∧ fn.np ≤ F.ntmps := by
 simp only [cFunc, Option.bind_eq_bind, Option.bind_eq_some_iff] at h
 obtain ⟨c, hc, b, hb, rs, hrs, h⟩ := h
 split at h
 ·rename_i hle
  simp only [Option.some.injEq] at h
  subst h
  exact ⟨c, hc, hb, hrs, hle⟩
 ·cases h
theorem start_rep [Link] {w : World} {X : Nat → Prop} {ι : Nat → Nat} {n k : Nat} {args : List V} {us : Array Value} (h : Reps w X ι n args us) (t : Nat) :
 Rep w X ι n (envOf args t) ((us ++ Array.replicate k undef).getD t undef) := by
 simp only [envOf, Array.getD_eq_getD_getElem?, Array.getElem?_append]
 split
 ·rename_i hlt
  have hlt' : t < args.length := by rw [← h.1]; exact hlt
  rw [List.getElem?_eq_getElem hlt', Array.getElem?_eq_getElem hlt]
  exact h.2 t _ _ (List.getElem?_eq_getElem hlt') (Array.getElem?_eq_getElem hlt)
 ·rename_i hlt
  have hlt' : args.length ≤ t := by rw [← h.1]; omega
  rw [List.getElem?_eq_none hlt']
  rw [Array.getElem?_replicate]
  split <;> exact .undef
theorem body_sound (hdraw : @DrawOk (lnk P T) _ P T) (hmix : P.follows .mixedOrders = true) {F : Func} {fn : Fn} {f : FuncId} (hf : P.funcs[f]? = some F) (hc : cFunc P (ownB T) F = some fn)
 {w : World} {X : Nat → Prop} {ι : Nat → Nat} {σ : Sto} {n lk : Nat} {args : List V} {us : Array Value} (hw : @WF (lnk P T) w X ι σ n) (hl : lk ≤ n) (hr : Reps w X ι n args us) (hi : Glob.inv w X)
 {Q : V → St → Prop} (h : wpC T (@sndC (lnk P T) _ P T) fn.body ⟨envOf args, σ, n, lk⟩ fun ex s => isEnd ex = true ∧ ∃ v, outOf s fn.res = some v ∧ Q v s) :
 CallsIn Fence.wide 0 P f us w fun e w' => ∃ u v s X' ι', e = .returned u ∧ Q v s ∧ @WF (lnk P T) w' X' ι' s.σ s.n ∧ Rep w' X' ι' s.n v u ∧ Ext w w' X X' ι ι' σ s.σ n s.n lk := by
 letI := lnk P T
 obtain ⟨c, hb, hcode, hres, hnp⟩ := cFunc_spec hc
 refine callsIn_of_wp_marks (fn := F) (c := c) hf hb trivial ?_
 have hat : At ⟨w, X, ι, σ, n, lk⟩ none F.ntmps ⟨envOf args, σ, n, lk⟩ { tmps := us ++ Array.replicate (F.ntmps - us.size) undef, defers := [] } w X ι :=
  ⟨hw, rfl, hl, by simp; omega, fun t => start_rep hr t, Ext.refl hw.xlt, ⟨[], rfl, List.nodup_nil, by simp⟩, fun l hl => (by cases hl), hi⟩
 have := code_sound (r := none) hdraw hmix c fn.body hcode _ _ _ _ _ _ hat h
 refine wpIn_mono this (fun e a' w' hh => ?_)
 have fin : ∀ (s : St) (X' : Nat → Prop) (ι' : Nat → Nat), At ⟨w, X, ι, σ, n, lk⟩ none F.ntmps s a' w' X' ι' → (∃ v, outOf s fn.res = some v ∧ Q v s) →
  LeavesInM Fence.wide 0 P F a'.tmps (fun e w' => ∃ u v s X' ι', e = .returned u ∧ Q v s ∧ WF w' X' ι' s.σ s.n ∧ Rep w' X' ι' s.n v u ∧ Ext w w' X X' ι ι' σ s.σ n s.n lk) a'.defers .returning w' := by
  intro s X' ι' h1 h2
  obtain ⟨v, hv, hq⟩ := h2
  obtain ⟨rs, m1, m2, m3⟩ := h1.marks
  rw [m1]
  refine leaves rs a' w' h1 rfl m1 m2 m3 (fun a2 w2 h3 ht => ?_)
  obtain ⟨u, hu, hru⟩ := results_sound (P := P) h3 hres hv
  rw [ht] at hu
  exact ⟨u, hu, u, v, s, X', ι', rfl, hq, h3.wf, hru, h3.ext⟩
 cases e with
 | normal => obtain ⟨s, X', ι', h1, -, h2⟩ := hh; exact fin s X' ι' h1 h2
 | ret => obtain ⟨s, X', ι', h1, -, h2⟩ := hh; exact fin s X' ι' h1 h2
 | exit id => obtain ⟨s, X', ι', h1, h2, -⟩ := hh; simp [isEnd] at h2
 | goto l => exact hh.elim
 | panic ch => exact hh.elim
 | outgrown => exact hh.elim
theorem round_sound (hdraw : @DrawOk (lnk P T) _ P T) (hmix : P.follows .mixedOrders = true) {l : Nat} {env : Nat → V} {a b : AC} {σ : Sto} {n lk : Nat} {Q : Out → Prop}
 (h : jobW T (@sndC (lnk P T) _ P T) (.round l env a b σ n lk) Q) : @sndC (lnk P T) _ P T (.round l env a b σ n lk) Q := by
 letI := lnk P T
 intro w X ι N tmps fn ca cb hw hl hlk ⟨env0, ps0, a0, b0, pend0, hrow⟩ hN hca hcb hrep hi
 obtain ⟨rec, hrec, -⟩ := hw.loop _ _ _ _ _ _ _ hrow
 have hln : l < n := hw.dom l (by rw [hrow]; simp)
 have hat : At ⟨w, X, ι, σ, n, lk⟩ (some (ι l)) N ⟨env, σ, n, lk⟩ { tmps := tmps, defers := [] } w X ι :=
  ⟨hw, rfl, hl, hN, hrep, Ext.refl hw.xlt, ⟨[], rfl, List.nodup_nil, by simp⟩, fun q hq => (by cases hq; exact ⟨rec, hrec⟩), hi⟩
 simp only [jobW] at h
 refine roundIn_of_wpIn (F := Fence.wide) trivial ?_
 have h1 := code_sound (B := ⟨w, X, ι, σ, n, lk⟩) (r := some (ι l)) (N := N) hdraw hmix ca a hca _ _ _ _ _ _ hat h
 refine wpIn_mono h1 (fun e a1 w1 hh => ?_)
 cases e with
 | normal =>
   obtain ⟨s1, X1, ι1, hat1, -, env', ps, a', b', pend, hrow1, hbody⟩ := hh
   obtain ⟨rec1, hrec1, hlr1⟩ := hat1.wf.loop _ _ _ _ _ _ _ hrow1
   have hι1 : ι1 l = ι l := hat1.ext.hι l hln
   rw [hι1] at hrec1
   have hready : rec1.state = .ready := by rw [hlr1.hst]; rfl
   have hlk1 : s1.lk ≤ l := by rw [hat1.hlk]; exact hlk
   obtain ⟨c1, c2⟩ := put_loop (lk := s1.lk) (r' := { rec1 with state := .busy }) (env := env') (ps := ps) (a := a') (b := b') (st := .busy) (pend := pend) hat1.wf hrow1 (by rw [hι1]; exact hrec1) hlk1
    ⟨rfl, hlr1.hpend, hlr1.hpn, hlr1.hps, hlr1.code, hlr1.rep⟩
   rw [hι1] at c1 c2
   refine ⟨_, run_beginRound hrec1 hready, ?_⟩
   have hat2 := hat1.put (dst := none) (v := .undef) (u := undef) rfl .undef c1 c2
   have h2 := code_sound (B := ⟨w, X, ι, σ, n, lk⟩) (r := some (ι l)) (N := N) hdraw hmix cb b hcb _ _ _ _ _ _ hat2 hbody
   refine wpIn_mono h2 (fun e2 a2 w2 hh2 => ?_)
   have fin : ∀ (ex : Ex) (jump : Option Code), jump = (if ex = .normal then none else pendM (some ex)) → jump.isNone = decide (ex = .normal) → (∃ s X' ι', At ⟨w, X, ι, σ, n, lk⟩ (some (ι l)) N s a2 w2 X' ι' ∧
    ((∃ env2 ps2 a2 b2 pend2, s.σ l = some (.loop env2 ps2 a2 b2 .busy pend2)) ∧ Q (.fin ex s.σ s.n))) →
    ∃ v w', (Instr.endRound (ι l) jump).run P w2 = .ok v w' ∧ ∃ ex σ' n' X' ι' env2 ps2 a2 b2 pend2, Ending.returned v = .returned (.bool (decide (ex = .normal))) ∧ Q (.fin ex σ' n') ∧
     σ' l = some (.loop env2 ps2 a2 b2 .busy pend2) ∧ WF w' X' ι' (upd σ' l (some (roundEnd env2 ps2 a2 b2 ex))) n' ∧
     Ext w w' X X' ι ι' σ (upd σ' l (some (roundEnd env2 ps2 a2 b2 ex))) n n' lk := by
    intro ex jump hj hjn ⟨s, X', ι', hat3, ⟨env2, ps2, a2', b2, pend2, hrow2⟩, hq⟩
    obtain ⟨rec2, hrec2, hlr2⟩ := hat3.wf.loop _ _ _ _ _ _ _ hrow2
    have hι2 : ι' l = ι l := hat3.ext.hι l hln
    rw [hι2] at hrec2
    have hlk2 : s.lk ≤ l := by rw [hat3.hlk]; exact hlk
    obtain ⟨d1, d2⟩ := put_loop (lk := s.lk) (r' := { rec2 with state := if jump.isNone then .ready else .done, pending := jump }) (env := env2) (ps := ps2) (a := a2') (b := b2)
     (st := if ex = .normal then .ready else .done) (pend := if ex = .normal then none else some ex) hat3.wf hrow2 (by rw [hι2]; exact hrec2) hlk2
     ⟨by rw [hjn]; cases ex <;> simp [stM], by rw [hj]; cases ex <;> simp [pendM], by cases ex <;> simp, hlr2.hps, hlr2.code, hlr2.rep⟩
    rw [hι2] at d1 d2
    refine ⟨_, _, run_endRound jump hrec2, ex, s.σ, s.n, X', ι', env2, ps2, a2', b2, pend2, by rw [hjn], hq, hrow2, d1, hat3.ext.trans ?_⟩
    rw [hat3.hlk] at d2
    exact d2
   cases e2 with
   | normal => exact fin .normal none rfl rfl hh2
   | ret => exact fin .ret (some .ret) (by simp [pendM]) (by simp) hh2
   | exit id => exact fin (.exit id) (some (.exit id)) (by simp [pendM]) (by simp) hh2
   | goto q => exact hh2.elim
   | panic ch => exact hh2.elim
   | outgrown => exact hh2.elim
 | exit id => obtain ⟨_, _, _, _, h0, _⟩ := hh; cases h0
 | ret => obtain ⟨_, _, _, _, h0, _⟩ := hh; cases h0
 | goto q => exact hh.elim
 | panic ch => exact hh.elim
 | outgrown => exact hh.elim
theorem job_sound (hdraw : @DrawOk (lnk P T) _ P T) (hmix : P.follows .mixedOrders = true) (hT : TabOf P T) (j : Job) (Q : Out → Prop) (h : jobW T (@sndC (lnk P T) _ P T) j Q) :
 @sndC (lnk P T) _ P T j Q := by
 letI := lnk P T
 cases j with
 | pure f ts =>
   obtain ⟨fn, h1, h2, h3, h4⟩ := h
   obtain ⟨F, hF, hc, hname⟩ := hT.1 f fn h1
   obtain ⟨c, hb, -⟩ := cFunc_spec hc
   refine ⟨⟨F, hF, hname, by rw [hb]; rfl⟩, fun w X0 us hX hr hi => ?_⟩
   refine (body_sound (lk := 0) hdraw hmix hF hc (WF.empty (n := 0) (ι := fun _ => 0) w hX) (Nat.le_refl _) hr hi h4).mono fun e w' hh => ?_
   obtain ⟨u, v, s, X', ι', rfl, ⟨r, hback, hq⟩, hwf, hrep, hext⟩ := hh
   exact ⟨u, r, rfl, hq, X', ι', s.σ, s.n, v, hwf, hrep, hback, hext⟩
 | raw f args σ n lk =>
   obtain ⟨fn, h1, h2, h4⟩ := h
   obtain ⟨F, hF, hc, hname⟩ := hT.1 f fn h1
   obtain ⟨c, hb, -⟩ := cFunc_spec hc
   refine ⟨⟨F, hF, hname, by rw [hb]; rfl⟩, fun w X ι us hw hl hr hi => ?_⟩
   refine (body_sound (lk := lk) hdraw hmix hF hc hw hl hr hi h4).mono fun e w' hh => ?_
   obtain ⟨u, v, s, X', ι', rfl, hq, hwf, hrep, hext⟩ := hh
   exact ⟨u, v, s.σ, s.n, X', ι', rfl, hq, hwf, hrep, hext⟩
 | round l env a b σ n lk => exact round_sound hdraw hmix h
theorem run_sound (hdraw : @DrawOk (lnk P T) _ P T) (hmix : P.follows .mixedOrders = true) (hT : TabOf P T) {j : Job} {Q : Out → Prop} (h : run T j Q) : @sndC (lnk P T) _ P T j Q :=
 letI := lnk P T
 h (sndC P T) (sndC_mono P T) (fun j Q hh => job_sound hdraw hmix hT j Q (jobD_W (sndC_mono P T) hh))
end
end Go.Q
end

section
/- Operations that draw their order: the evaluator's word is the same in every order. -/
namespace Go.Q
theorem partsOf_congr {ρ ρ' : Opd → V} : ∀ (ps : List (Nat × Nat × Opd)) (z : List V), (∀ p ∈ ps, ρ p.2.2 = ρ' p.2.2) → partsOf ρ z ps = partsOf ρ' z ps
 | [], z, _ => rfl
 | (off, size, x) :: ps, z, h => by
   have h0 : ρ x = ρ' x := h (off, size, x) (by simp)
   simp only [partsOf, h0]
   split
   ·exact partsOf_congr ps _ (fun p hp => h p (List.mem_cons_of_mem _ hp))
   ·rfl
theorem boundOf_congr {ρ ρ' : Opd → V} {o : Option Opd} {d most : Nat} (h : ∀ x, o = some x → ρ x = ρ' x) : boundOf ρ o d most = boundOf ρ' o d most := by
 cases o with
 | none => rfl
 | some x => simp only [boundOf, h x rfl]
theorem ev_congr {ρ ρ' : Opd → V} {σ : Sto} {n lk : Nat} {ai : AI} (h : ∀ x ∈ ai.opds, ρ x = ρ' x) : ev ρ σ n lk ai = ev ρ' σ n lk ai := by
 cases ai <;> simp only [AI.opds] at h
 case build z ps => simp only [ev, partsOf_congr ps z (fun p hp => h _ (List.mem_map.2 ⟨p, hp, rfl⟩))]
 case lit sz es =>
  have h1 : es.map ρ = es.map ρ' := List.map_congr_left (fun x hx => h x hx)
  have h2 : (es.all fun x => decide ((ρ x).cells.length = sz) && (ρ x).cells.all V.one) = es.all fun x => decide ((ρ' x).cells.length = sz) && (ρ' x).cells.all V.one := by
   apply Bool.eq_iff_iff.2
   simp only [List.all_eq_true]
   exact ⟨fun hh x hx => by rw [← h x hx]; exact hh x hx, fun hh x hx => by rw [h x hx]; exact hh x hx⟩
  simp only [ev, h1, h2]
 case mkfn f es => simp only [ev, List.map_congr_left (fun x hx => h x hx)]
 case mkbnd f es => simp only [ev, List.map_congr_left (fun x hx => h x hx)]
 case min es => simp only [ev, List.map_congr_left (fun x hx => h x hx)]
 case max es => simp only [ev, List.map_congr_left (fun x hx => h x hx)]
 case slice sz x lo hi =>
  have h0 := h x (by simp)
  have h1 : ∀ d m, boundOf ρ lo d m = boundOf ρ' lo d m := fun d m => boundOf_congr (fun y hy => h y (by simp [hy]))
  have h2 : ∀ d m, boundOf ρ hi d m = boundOf ρ' hi d m := fun d m => boundOf_congr (fun y hy => h y (by simp [hy]))
  simp only [ev, h0, h1, h2]
 case sliceS x lo hi =>
  have h0 := h x (by simp)
  have h1 : ∀ d m, boundOf ρ lo d m = boundOf ρ' lo d m := fun d m => boundOf_congr (fun y hy => h y (by simp [hy]))
  have h2 : ∀ d m, boundOf ρ hi d m = boundOf ρ' hi d m := fun d m => boundOf_congr (fun y hy => h y (by simp [hy]))
  simp only [ev, h0, h1, h2]
 case call => simp [ev]
 case callv => simp [ev]
 case inv => simp [ev]
 case prim => simp [ev]
 case slice3 sz x lo hi mx =>
  have h0 := h x (by simp)
  have h1 : ∀ d m, boundOf ρ lo d m = boundOf ρ' lo d m := fun d m => boundOf_congr (fun y hy => h y (by simp [hy]))
  have h2 : ∀ d m, boundOf ρ (some hi) d m = boundOf ρ' (some hi) d m := fun d m => boundOf_congr (fun y hy => by cases hy; exact h hi (by simp))
  have h3 := h mx (by simp)
  have h4 := h hi (by simp)
  simp only [ev, h0, h1, h2, h3, h4]
 all_goals
  first
   | rfl
   | simp only [ev, h _ (List.mem_cons_self ..), h _ (List.mem_cons_of_mem _ (List.mem_cons_self ..)), h _ (List.mem_cons_of_mem _ (List.mem_cons_of_mem _ (List.mem_cons_self ..)))]
   | simp only [ev, h _ (List.mem_cons_self ..), h _ (List.mem_cons_of_mem _ (List.mem_cons_self ..))]
   | simp only [ev, h _ (List.mem_cons_self ..)]
section
variable {T : Tab} {C : Calls'}
theorem opW_congr {fs : Bool} {ρ ρ' : Opd → V} {σ : Sto} {n lk : Nat} {ai : AI} {Q : V → Sto → Nat → Prop} (h : ∀ x ∈ ai.opds, ρ x = ρ' x)
 (hh : opW T C fs ρ σ n lk ai Q) : opW T C fs ρ' σ n lk ai Q := by
 have he := ev_congr (σ := σ) (n := n) (lk := lk) h
 unfold opW at *
 split at hh
 ·simp only [AI.opds] at h
  rwa [List.map_congr_left (fun x hx => h x hx)] at hh
 ·simp only [AI.opds] at h
  rename_i g args
  rw [h g (by simp)] at hh
  rw [List.map_congr_left (fun x hx => h x (List.mem_cons_of_mem _ hx))] at hh
  exact hh
 ·simp only [AI.opds] at h
  rename_i x tbl args
  rw [h x (by simp)] at hh
  rw [List.map_congr_left (fun y hy => h y (List.mem_cons_of_mem _ hy))] at hh
  exact hh
 ·simp only [AI.opds] at h
  rename_i x
  rw [h x (by simp)] at hh
  exact hh
 ·simp only [AI.opds] at h
  rwa [List.map_congr_left (fun x hx => h x hx)] at hh
 ·rw [he] at hh; exact hh
theorem opW_out {ρ : Opd → V} {σ : Sto} {n lk : Nat} {ai : AI} {Q : V → Sto → Nat → Prop} (h : opW T C false ρ σ n lk ai Q) :
 ∃ v σ' n', Q v σ' n' ∧ ∀ Q' : V → Sto → Nat → Prop, Q' v σ' n' → opW T C false ρ σ n lk ai Q' := by
 have call : ∀ {f args}, callW T C false f args σ n lk Q → ∃ v σ' n', Q v σ' n' ∧ ∀ Q' : V → Sto → Nat → Prop, Q' v σ' n' → callW T C false f args σ n lk Q' := by
  intro f args hc
  unfold callW at *
  cases hm : T.mode f <;> simp only [hm] at hc ⊢
  case raw => simp at hc
  all_goals
   obtain ⟨ts, h1, r, h2, D, h3, h4, h5, h6⟩ := hc
   exact ⟨_, _, _, h6, fun Q' hq => ⟨ts, h1, r, h2, D, h3, h4, h5, hq⟩⟩
 unfold opW at *
 split at h
 ·exact call h
 ·split at h
  ·exact call h
  ·exact call h
  ·simp at h
  ·exact h.elim
 ·simp at h
 ·simp at h
 ·split at h
  ·rename_i v σ' n' he
   exact ⟨v, σ', n', h, fun Q' hq => hq⟩
  ·exact h.elim
 ·split at h
  ·rename_i v σ' n' he
   exact ⟨v, σ', n', h, fun Q' hq => hq⟩
  ·exact h.elim
def DOp.lab (d : DOp) (n0 : Nat) : Nat := n0 + BIG * d.rank
def DOp.view (d : DOp) (n0 : Nat) (σ : Sto) : Sto := if d.pure then Sto.empty else if d.wr then σ else hide σ n0 (d.lab n0) d.hid
def DOp.top (d : DOp) (n0 : Nat) : Nat := d.lab n0 + (if d.lays then BIG else 0)
def DOp.fin (d : DOp) (n0 : Nat) (σ σo : Sto) : Sto := if d.pure then σ else if d.wr then σo else match d.low with
 | some lo => mergeL σ σo n0 lo (d.top n0) d.hid
 | none => if d.lays then merge σ σo (d.lab n0) else σ
def DOp.lok (d : DOp) (n0 lk : Nat) : Nat := if d.wr && !d.pure then lk else n0 + BIG * d.lo
def DOp.W (d : DOp) (n0 id : Nat) : Prop := d.calm = true ∧ match d.low with
 | some lo => n0 + BIG * lo ≤ id ∧ id < d.top n0 ∧ ¬ inHid n0 d.hid id
 | none => d.lays = true ∧ d.lab n0 ≤ id ∧ id < d.lab n0 + BIG
theorem fin_calm {d : DOp} (hc : d.calm = true) (n0 : Nat) (σ σo : Sto) (id : Nat) : (d.W n0 id ∧ d.fin n0 σ σo id = σo id) ∨ (¬ d.W n0 id ∧ d.fin n0 σ σo id = σ id) := by
 have hp : d.pure = false ∧ d.wr = false := by simpa [DOp.calm] using hc
 unfold DOp.fin DOp.W
 simp only [hp.1, hp.2, hc, Bool.false_eq_true, if_false, true_and]
 cases d.low with
 | none =>
   cases hl : d.lays with
   | false => right; simp
   | true =>
     by_cases h : d.lab n0 ≤ id ∧ id < d.lab n0 + BIG
     ·left; simp [merge, h]
     ·right; simp only [merge, h, if_true, if_false, and_true]; simp
 | some lo =>
   by_cases h : n0 + BIG * lo ≤ id ∧ id < d.top n0 ∧ ¬ inHid n0 d.hid id
   ·left; exact ⟨h, by simp only [mergeL]; rw [if_pos h]⟩
   ·right; exact ⟨h, by simp only [mergeL]; rw [if_neg h]⟩
theorem hideR_eq (σ : Sto) (n0 : Nat) : ∀ (hid : List Nat) (id : Nat), hideR σ n0 hid id = if inHid n0 hid id then none else σ id
 | [], id => by simp [hideR, inHid]
 | r :: rs, id => by
   simp only [hideR]
   by_cases h : n0 + BIG * r ≤ id ∧ id < n0 + BIG * r + BIG
   ·rw [if_pos h, if_pos ⟨r, by simp, h⟩]
   ·rw [if_neg h, hideR_eq σ n0 rs id]
    by_cases h2 : inHid n0 rs id
    ·obtain ⟨q, hq, h3⟩ := h2
     rw [if_pos ⟨q, hq, h3⟩, if_pos ⟨q, List.mem_cons_of_mem _ hq, h3⟩]
    ·rw [if_neg h2, if_neg]
     rintro ⟨q, hq, h3⟩
     rcases List.mem_cons.1 hq with rfl | hq
     ·exact h h3
     ·exact h2 ⟨q, hq, h3⟩
theorem big_pos : 0 < BIG := by have := big_le; omega
theorem W_hid {d e : DOp} {n0 id : Nat} (h3 : d.lays = true → d.rank ∈ e.hid) (h4 : ∀ r, d.lo ≤ r → r < d.rank → r ∈ d.hid ∨ r ∈ e.hid) (h : d.W n0 id) : inHid n0 e.hid id := by
 obtain ⟨hc, h⟩ := h
 cases hlow : d.low with
 | none =>
   rw [hlow] at h
   exact ⟨_, h3 h.1, h.2⟩
 | some lo =>
   rw [hlow] at h
   obtain ⟨a1, a2, a3⟩ := h
   have hlo : d.lo = lo := by simp [DOp.lo, hlow]
   by_cases hlt : id < d.lab n0
   ·have hb := big_pos
    have e1 : BIG * ((id - n0) / BIG) ≤ id - n0 := Nat.mul_div_le _ _
    have e2 : id - n0 < BIG * ((id - n0) / BIG) + BIG := by
     have := Nat.lt_mul_div_succ (id - n0) hb
     rwa [Nat.mul_add, Nat.mul_one] at this
    have r1 : lo ≤ (id - n0) / BIG := (Nat.le_div_iff_mul_le hb).2 (by rw [Nat.mul_comm]; omega)
    have r2 : (id - n0) / BIG < d.rank := (Nat.div_lt_iff_lt_mul hb).2 (by unfold DOp.lab at hlt; rw [Nat.mul_comm]; omega)
    rcases h4 _ (by omega) r2 with h5 | h5
    ·exact absurd ⟨_, h5, by omega, by omega⟩ a3
    ·exact ⟨_, h5, by omega, by omega⟩
   ·unfold DOp.top at a2
    cases hl : d.lays with
    | false => rw [hl] at a2; simp at a2; omega
    | true => rw [hl] at a2; simp only [if_true] at a2; exact ⟨_, h3 hl, by unfold DOp.lab at hlt; omega, by unfold DOp.lab at a2; omega⟩
theorem opD_eq (d : DOp) (ρ : Opd → V) (σ : Sto) (n0 lk : Nat) (Q : V → Sto → Prop) :
 opD T C d ρ σ n0 lk Q = opW T C false ρ (d.view n0 σ) (d.lab n0) (d.lok n0 lk) d.o.op fun v σo n' => n' ≤ d.top n0 ∧ Q v (d.fin n0 σ σo) := rfl
def stepD (T : Tab) (C : Calls') (n0 : Nat) (d : DOp) (s : St) (K : St → Prop) : Prop :=
 if wants d.o.guard s.env then opD T C d s.val s.σ n0 s.lk fun v σ' => K ({ s with σ := σ' }.put d.o.dst v) else K (s.put d.o.dst .undef)
theorem wpD_cons (n0 : Nat) (d : DOp) (ds : List DOp) (s : St) (Q : St → Prop) : wpD T C n0 (d :: ds) s Q = stepD T C n0 d s (fun s' => wpD T C n0 ds s' Q) := rfl
def Sep (d e : DOp) : Prop := pairOk d e = true ∧ d.rank + (if d.lays then 1 else 0) ≤ e.rank
theorem lowOk_spec {a b : DOp} (h : lowOk a b = true) (ha : a.calm = true) (hb : b.calm = true) : ∀ r, a.lo ≤ r → r < a.rank → r ∈ a.hid ∨ r ∈ b.hid := by
 intro r h1 h2
 unfold lowOk at h
 rw [ha, hb] at h
 simp only [Bool.and_self, Bool.not_true, Bool.false_or, List.all_eq_true, List.mem_range, Bool.or_eq_true, decide_eq_true_eq, List.contains_iff_mem] at h
 rcases h r h2 with (h | h) | h
 ·omega
 ·exact .inl h
 ·exact .inr h
theorem pairOk_spec {a b : DOp} (h : pairOk0 a b = true) : (∀ t, a.o.dst = some t → t ∉ b.o.reads) ∧ (∀ t, b.o.dst = some t → t ∉ a.o.reads) ∧ (∀ t, a.o.dst = some t → b.o.dst ≠ some t) ∧
 (a.wr = true → b.pure = true) ∧ (b.wr = true → a.pure = true) ∧ ((b.calm = true → a.lays = true → a.rank ∈ b.hid) ∧ (a.calm = true → b.calm = true → ∀ r, a.lo ≤ r → r < a.rank → r ∈ a.hid ∨ r ∈ b.hid)) ∧
 ((a.calm = true → b.lays = true → b.rank ∈ a.hid) ∧ (b.calm = true → a.calm = true → ∀ r, b.lo ≤ r → r < b.rank → r ∈ b.hid ∨ r ∈ a.hid)) := by
 simp only [pairOk0, Bool.and_eq_true, Bool.not_eq_true', Bool.or_eq_true, Bool.not_eq_true, List.contains_iff_mem] at h
 obtain ⟨⟨⟨⟨⟨⟨⟨⟨h1, h2⟩, h3⟩, h4⟩, h5⟩, h6⟩, h7⟩, h8⟩, h9⟩ := h
 refine ⟨fun t ht hm => ?_, fun t ht hm => ?_, fun t ht hb => ?_, fun hw => ?_, fun hw => ?_, ⟨fun hc hl => ?_, fun ha hb => lowOk_spec h8 ha hb⟩, ⟨fun hc hl => ?_, fun hb ha => lowOk_spec h9 hb ha⟩⟩
 ·rw [ht] at h1; simp [meets, hm] at h1
 ·rw [ht] at h2; simp [meets, hm] at h2
 ·rw [ht, hb] at h3; simp [meets] at h3
 ·rcases h4 with h | h
  ·rw [hw] at h; cases h
  ·exact h
 ·rcases h5 with h | h
  ·rw [hw] at h; cases h
  ·exact h
 ·rcases h6 with h | h
  ·rw [hc, hl] at h; cases h
  ·simpa using h
 ·rcases h7 with h | h
  ·rw [hc, hl] at h; cases h
  ·simpa using h
def Blind (d e : DOp) : Prop := (e.calm = true → d.lays = true → d.rank ∈ e.hid) ∧ (d.calm = true → e.calm = true → ∀ r, d.lo ≤ r → r < d.rank → r ∈ d.hid ∨ r ∈ e.hid)
theorem calm_of {d : DOp} (h1 : d.pure = false) (h2 : d.wr = false) : d.calm = true := by simp [DOp.calm, h1, h2]
theorem view_fin {d e : DOp} (h1 : d.wr = true → e.pure = true) (h2 : e.wr = true → d.pure = true) (h3 : Blind d e) (n0 : Nat) (σ σd : Sto) :
 e.view n0 (d.fin n0 σ σd) = e.view n0 σ := by
 cases hp : e.pure with
 | true => simp [DOp.view, hp]
 | false =>
   cases hdp : d.pure with
   | true => simp [DOp.fin, hdp]
   | false =>
     cases hw : e.wr with
     | true => rw [h2 hw] at hdp; cases hdp
     | false =>
       cases hdw : d.wr with
       | true => rw [h1 hdw] at hp; cases hp
       | false =>
         have hc := calm_of hdp hdw
         have hce := calm_of hp hw
         have key : ∀ id, ¬ inHid n0 e.hid id → d.fin n0 σ σd id = σ id := fun id hn => by
          rcases fin_calm hc n0 σ σd id with ⟨h, _⟩ | ⟨_, h⟩
          ·exact absurd (W_hid (h3.1 hce) (h3.2 hc hce) h) hn
          ·exact h
         unfold DOp.view
         simp only [hp, hw, Bool.false_eq_true, if_false]
         funext id
         cases hh : e.hid with
         | nil => exact key id (by rw [hh]; rintro ⟨_, h, _⟩; cases h)
         | cons r rs =>
           simp only [hide]
           split
           ·rw [hideR_eq, hideR_eq, ← hh]
            split
            ·rfl
            ·rename_i hn; exact key id hn
           ·rfl
theorem W_apart {d e : DOp} {n0 id : Nat} (h3 : Blind d e) (h4 : Blind e d) (hr : d.rank + (if d.lays then 1 else 0) ≤ e.rank) (hd : d.W n0 id) (he : e.W n0 id) : False := by
 have hdc := hd.1
 have hec := he.1
 have k1 := W_hid (h3.1 hec) (h3.2 hdc hec) hd
 have k2 := W_hid (h4.1 hdc) (h4.2 hec hdc) he
 obtain ⟨-, hd⟩ := hd
 obtain ⟨-, he⟩ := he
 cases hl : d.low with
 | some lo => rw [hl] at hd; exact hd.2.2 k2
 | none =>
   cases hl' : e.low with
   | some lo => rw [hl'] at he; exact he.2.2 k1
   | none =>
     rw [hl] at hd; rw [hl'] at he
     rw [hd.1] at hr
     simp only [if_true] at hr
     have := Nat.mul_le_mul_left BIG hr
     rw [Nat.mul_add, Nat.mul_one] at this
     obtain ⟨-, a1, a2⟩ := hd
     obtain ⟨-, b1, b2⟩ := he
     unfold DOp.lab at *
     omega
theorem fin_fin {d e : DOp} (h1 : d.wr = true → e.pure = true) (h2 : e.wr = true → d.pure = true) (h3 : d.rank + (if d.lays then 1 else 0) ≤ e.rank) (h4 : Blind d e) (h5 : Blind e d) (n0 : Nat) (σ σd σe : Sto) :
 d.fin n0 (e.fin n0 σ σe) σd = e.fin n0 (d.fin n0 σ σd) σe := by
 cases hp : e.pure with
 | true => simp [DOp.fin, hp]
 | false =>
   cases hdp : d.pure with
   | true => simp [DOp.fin, hdp]
   | false =>
     cases hw : e.wr with
     | true => rw [h2 hw] at hdp; cases hdp
     | false =>
       cases hdw : d.wr with
       | true => rw [h1 hdw] at hp; cases hp
       | false =>
         have hc := calm_of hdp hdw
         have hce := calm_of hp hw
         funext id
         rcases fin_calm hc n0 (e.fin n0 σ σe) σd id with ⟨a, ha⟩ | ⟨a, ha⟩ <;> rcases fin_calm hce n0 (d.fin n0 σ σd) σe id with ⟨b, hb⟩ | ⟨b, hb⟩ <;> rw [ha, hb]
         ·exact (W_apart h4 h5 h3 a b).elim
         ·rcases fin_calm hc n0 σ σd id with ⟨_, h⟩ | ⟨h, _⟩
          ·exact h.symm
          ·exact absurd a h
         ·rcases fin_calm hce n0 σ σe id with ⟨_, h⟩ | ⟨h, _⟩
          ·exact h
          ·exact absurd b h
         ·rcases fin_calm hce n0 σ σe id with ⟨h, _⟩ | ⟨_, h⟩
          ·exact absurd h b
          ·rw [h]
           rcases fin_calm hc n0 σ σd id with ⟨h', _⟩ | ⟨_, h'⟩
           ·exact absurd h' a
           ·exact h'.symm
theorem val_put {s : St} {σ' : Sto} {dst : Option Nat} {v : V} {x : Opd} (h : ∀ t, dst = some t → x ≠ .tmp t) : (({ s with σ := σ' } : St).put dst v).val x = s.val x := by
 cases x with
 | con c => cases dst <;> rfl
 | tmp t =>
   cases dst with
   | none => rfl
   | some d =>
     have hne : t ≠ d := fun e => h d rfl (by rw [e])
     simp [St.put, St.val, hne]
theorem wants_put {s : St} {σ' : Sto} {dst : Option Nat} {v : V} {g : Option (Nat × Bool)} (h : ∀ t, dst = some t → ∀ b, g ≠ some (t, b)) :
 wants g (({ s with σ := σ' } : St).put dst v).env = wants g s.env := by
 cases g with
 | none => rfl
 | some p =>
   obtain ⟨t, b⟩ := p
   cases dst with
   | none => rfl
   | some d =>
     have hne : t ≠ d := fun e => h d rfl b (by rw [e])
     simp [wants, St.put, hne]
theorem reads_opd {o : AOp} {t : Nat} (h : t ∉ o.reads) : (∀ x ∈ o.op.opds, x ≠ .tmp t) ∧ ∀ b, o.guard ≠ some (t, b) := by
 simp only [AOp.reads, List.mem_append, not_or] at h
 refine ⟨fun x hx e => h.1 ?_, fun b e => h.2 (by rw [e]; simp)⟩
 rw [List.mem_filterMap]
 exact ⟨x, hx, by rw [e]⟩
def Outc (T : Tab) (C : Calls') (n0 : Nat) (d : DOp) (s : St) (v : V) (g : Sto → Sto) : Prop :=
 (wants d.o.guard s.env = false ∧ v = .undef ∧ g = fun σ => σ) ∨
 (wants d.o.guard s.env = true ∧ ∃ σo n', (g = fun σ => d.fin n0 σ σo) ∧ n' ≤ d.top n0 ∧
  ∀ Q' : V → Sto → Nat → Prop, Q' v σo n' → opW T C false s.val (d.view n0 s.σ) (d.lab n0) (d.lok n0 s.lk) d.o.op Q')
theorem stepD_iff {n0 : Nat} {d : DOp} {s : St} {K : St → Prop} : stepD T C n0 d s K ↔ ∃ v g, Outc T C n0 d s v g ∧ K ({ s with σ := g s.σ }.put d.o.dst v) := by
 unfold stepD
 constructor
 ·intro h
  split at h <;> rename_i hw
  ·rw [opD_eq] at h
   obtain ⟨v, σo, n', ⟨h1, h2⟩, h3⟩ := opW_out h
   exact ⟨v, _, .inr ⟨hw, σo, n', rfl, h1, h3⟩, h2⟩
  ·exact ⟨.undef, _, .inl ⟨by simpa using hw, rfl, rfl⟩, h⟩
 ·rintro ⟨v, g, ⟨hw, rfl, rfl⟩ | ⟨hw, σo, n', rfl, h1, h3⟩, h⟩
  ·simpa [hw] using h
  ·rw [if_pos hw, opD_eq]; exact h3 _ ⟨h1, h⟩
theorem put_comm {s : St} {σ1 σ2 : Sto} {d e : Option Nat} {v u : V} (h : ∀ t, d = some t → e ≠ some t) :
 ({ ({ s with σ := σ1 } : St).put d v with σ := σ2 } : St).put e u = (({ s with σ := σ2 } : St).put e u).put d v := by
 cases d with
 | none => cases e <;> rfl
 | some d =>
   cases e with
   | none => rfl
   | some e =>
     have hne : d ≠ e := fun hh => h d rfl (by rw [hh])
     simp only [St.put, St.mk.injEq, and_self, and_true]
     funext t
     split
     ·rename_i he; subst he; rw [if_neg (Ne.symm hne)]
     ·rfl
theorem put_sig {s : St} {σ1 : Sto} {d : Option Nat} {v : V} : (({ s with σ := σ1 } : St).put d v).σ = σ1 := by cases d <;> rfl
theorem put_lk {s : St} {d : Option Nat} {v : V} : (s.put d v).lk = s.lk := by cases d <;> rfl
theorem put_n {s : St} {d : Option Nat} {v : V} : (s.put d v).n = s.n := by cases d <;> rfl
def Eff (d : DOp) (n0 : Nat) (g : Sto → Sto) : Prop := (g = fun σ => σ) ∨ ∃ σo, g = fun σ => d.fin n0 σ σo
theorem Outc.eff {n0 : Nat} {d : DOp} {s : St} {v : V} {g : Sto → Sto} (h : Outc T C n0 d s v g) : Eff d n0 g := by
 rcases h with ⟨-, -, h⟩ | ⟨-, σo, _, h, -⟩
 ·exact .inl h
 ·exact .inr ⟨σo, h⟩
theorem outc_iff {n0 : Nat} {d e : DOp} (p1 : ∀ t, d.o.dst = some t → t ∉ e.o.reads) (p4 : d.wr = true → e.pure = true) (p5 : e.wr = true → d.pure = true)
 (p6 : Blind d e) {s : St} {v u : V} {g g' : Sto → Sto} (hg : Eff d n0 g) :
 Outc T C n0 e (({ s with σ := g s.σ } : St).put d.o.dst v) u g' ↔ Outc T C n0 e s u g' := by
 have re : ∀ t, d.o.dst = some t → (∀ x ∈ e.o.op.opds, x ≠ .tmp t) ∧ ∀ b, e.o.guard ≠ some (t, b) := fun t ht => reads_opd (p1 t ht)
 have hview : e.view n0 (g s.σ) = e.view n0 s.σ := by
  rcases hg with rfl | ⟨σd, rfl⟩
  ·rfl
  ·exact view_fin p4 p5 p6 n0 s.σ σd
 have hwant : wants e.o.guard (({ s with σ := g s.σ } : St).put d.o.dst v).env = wants e.o.guard s.env := wants_put (fun t ht => (re t ht).2)
 have hop : ∀ Q : V → Sto → Nat → Prop, opW T C false (({ s with σ := g s.σ } : St).put d.o.dst v).val (e.view n0 (({ s with σ := g s.σ } : St).put d.o.dst v).σ) (e.lab n0)
  (e.lok n0 (({ s with σ := g s.σ } : St).put d.o.dst v).lk) e.o.op Q ↔ opW T C false s.val (e.view n0 s.σ) (e.lab n0) (e.lok n0 s.lk) e.o.op Q := by
  intro Q
  rw [put_sig, hview, put_lk]
  exact ⟨opW_congr (fun x hx => val_put (fun t ht => (re t ht).1 x hx)), opW_congr (fun x hx => (val_put (fun t ht => (re t ht).1 x hx)).symm)⟩
 unfold Outc
 simp only [hwant, hop]
theorem findE_mod {kk : KK} {k : V} (hk : eqKey kk k k = some true) : ∀ (es : List (V × V × Nat)) (j i : Nat), findE kk k es j = some (some i) → j ≤ i ∧ findE kk k (es.modify (i - j) fun e => (k, e.2)) j = some (some i) ∧ i - j < es.length
 | [], j, i, h => by simp [findE] at h
 | e :: es, j, i, h => by
   simp only [findE, Option.bind_eq_some_iff] at h
   obtain ⟨b, hb, h⟩ := h
   cases b
   ·simp only [Bool.false_eq_true, if_false] at h
    obtain ⟨h1, h2, h3⟩ := findE_mod hk es (j + 1) i h
    refine ⟨by omega, ?_, by simp; omega⟩
    rw [show i - j = (i - (j + 1)) + 1 by omega, List.modify_succ_cons]
    simp only [findE, hb, Option.bind_some, Bool.false_eq_true, if_false, h2]
   ·simp only [if_true, Option.some.injEq] at h
    subst h
    refine ⟨Nat.le_refl _, ?_, by simp⟩
    rw [Nat.sub_self, List.modify_zero_cons]
    simp [findE, hk]
theorem findE_app {kk : KK} {k : V} (hk : eqKey kk k k = some true) {z : V × Nat} : ∀ (es : List (V × V × Nat)) (j : Nat), findE kk k es j = some none → findE kk k (es ++ [(k, z)]) j = some (some (j + es.length))
 | [], j, h => by simp [findE, hk]
 | e :: es, j, h => by
   simp only [findE, Option.bind_eq_some_iff] at h
   obtain ⟨b, hb, h⟩ := h
   cases b
   ·simp only [Bool.false_eq_true, if_false] at h
    simp only [List.cons_append, findE, hb, Option.bind_some, Bool.false_eq_true, if_false, findE_app hk es (j + 1) h, List.length_cons]
    congr 2; omega
   ·simp at h
theorem mg_same {ai bi : AI} (h : mgOk ai bi = true) {ρ : Opd → V} {σ σd : Sto} {n lk n' : Nat} {v : V} (hd : ev ρ σ n lk ai = some (v, σd, n')) (n2 lk2 : Nat) :
 ∃ u, ev ρ σ n2 lk2 bi = some (u, σ, n2) ∧ ev ρ σd n2 lk2 bi = some (u, σd, n2) := by
 unfold mgOk at h
 split at h
 rotate_left
 ·cases h
 rename_i kk z m k kk' z' m' k'
 simp only [Bool.and_eq_true, decide_eq_true_eq, beq_iff_eq] at h
 obtain ⟨⟨⟨rfl, rfl⟩, rfl⟩, hz⟩ := h
 have hz : z = z' := by
  split at hz
  ·simp only [Bool.and_eq_true, decide_eq_true_eq, beq_iff_eq] at hz
   rw [hz.1, hz.2]
  ·cases hz
 subst hz
 simp only [ev] at hd
 split at hd
 rotate_left
 ·cases hd
 rename_i id hv
 split at hd
 rotate_left
 ·cases hd
 rename_i es clk hs
 split at hd
 rotate_left
 ·cases hd
 rename_i hc
 obtain ⟨hl, hkey⟩ := hc
 simp only [Option.bind_eq_some_iff] at hd
 obtain ⟨r, hr, hd⟩ := hd
 cases r with
 | none =>
   simp only [Option.some.injEq, Prod.mk.injEq] at hd
   obtain ⟨rfl, rfl, rfl⟩ := hd
   refine ⟨z, ?_, ?_⟩
   ·simp [ev, hv, mapOf, hs, hkey, hr]
   ·have := findE_app hkey (z := (z, clk)) es 0 hr
    simp [ev, hv, mapOf, upd, hkey, this]
 | some i =>
   obtain ⟨h1, h2, h3⟩ := findE_mod hkey es 0 i hr
   simp only [Nat.sub_zero] at h2 h3
   have hei : es[i]? = some es[i] := List.getElem?_eq_getElem h3
   simp only [hei, Option.map_some, Option.some.injEq, Prod.mk.injEq] at hd
   obtain ⟨rfl, rfl, rfl⟩ := hd
   refine ⟨es[i].2.1, ?_, ?_⟩
   ·simp [ev, hv, mapOf, hs, hkey, hr, hei]
   ·simp [ev, hv, mapOf, upd, hkey, h2, List.getElem?_modify, hei]
theorem opW_ment {fs : Bool} {ρ : Opd → V} {σ : Sto} {n lk : Nat} {ai bi : AI} (h : mgOk ai bi = true) {Q : V → Sto → Nat → Prop} :
 (opW T C fs ρ σ n lk ai Q ↔ ∃ v σ' n', ev ρ σ n lk ai = some (v, σ', n') ∧ Q v σ' n') ∧ (opW T C fs ρ σ n lk bi Q ↔ ∃ v σ' n', ev ρ σ n lk bi = some (v, σ', n') ∧ Q v σ' n') := by
 have key : ∀ {r : Option (V × Sto × Nat)}, (match r with | some (v, σ', n') => Q v σ' n' | none => False) ↔ ∃ v σ' n', r = some (v, σ', n') ∧ Q v σ' n' := by
  intro r
  constructor
  ·intro hh
   split at hh
   ·exact ⟨_, _, _, rfl, hh⟩
   ·exact hh.elim
  ·rintro ⟨v, σ', n', rfl, hq⟩; exact hq
 unfold mgOk at h
 split at h
 ·exact ⟨by simp only [opW]; exact key, by simp only [opW]; exact key⟩
 ·cases h
theorem outc_env {n0 : Nat} {d e : DOp} (p1 : ∀ t, d.o.dst = some t → t ∉ e.o.reads) {s : St} {σ1 : Sto} {v u : V} {g' : Sto → Sto} :
 Outc T C n0 e (({ s with σ := σ1 } : St).put d.o.dst v) u g' ↔ Outc T C n0 e { s with σ := σ1 } u g' := by
 have re : ∀ t, d.o.dst = some t → (∀ x ∈ e.o.op.opds, x ≠ .tmp t) ∧ ∀ b, e.o.guard ≠ some (t, b) := fun t ht => reads_opd (p1 t ht)
 have hwant : wants e.o.guard (({ s with σ := σ1 } : St).put d.o.dst v).env = wants e.o.guard s.env := wants_put (fun t ht => (re t ht).2)
 have hval : ∀ x ∈ e.o.op.opds, (({ s with σ := σ1 } : St).put d.o.dst v).val x = ({ s with σ := σ1 } : St).val x := fun x hx => by
  rw [val_put (fun t ht => (re t ht).1 x hx)]
  cases x <;> rfl
 have hop : ∀ Q : V → Sto → Nat → Prop, opW T C false (({ s with σ := σ1 } : St).put d.o.dst v).val (e.view n0 (({ s with σ := σ1 } : St).put d.o.dst v).σ) (e.lab n0)
  (e.lok n0 (({ s with σ := σ1 } : St).put d.o.dst v).lk) e.o.op Q ↔ opW T C false ({ s with σ := σ1 } : St).val (e.view n0 σ1) (e.lab n0) (e.lok n0 s.lk) e.o.op Q := by
  intro Q
  rw [put_sig, put_lk]
  exact ⟨opW_congr hval, opW_congr (fun x hx => (hval x hx).symm)⟩
 unfold Outc
 simp only [hwant, hop]
theorem mgPair_spec {a b : DOp} (h : mgPair a b = true) : mgOk a.o.op b.o.op = true ∧ a.wr = true ∧ a.pure = false ∧ b.pure = false ∧ b.wr = false ∧ a.lays = false ∧ b.lays = false ∧ b.low = none ∧ b.hid = [] ∧ a.rank = b.rank ∧
 (∀ t, a.o.dst = some t → t ∉ b.o.reads) ∧ (∀ t, b.o.dst = some t → t ∉ a.o.reads) ∧ (∀ t, a.o.dst = some t → b.o.dst ≠ some t) := by
 simp only [mgPair, Bool.and_eq_true, Bool.not_eq_true', Option.isNone_iff_eq_none, List.isEmpty_iff, beq_iff_eq] at h
 obtain ⟨⟨⟨⟨⟨⟨⟨⟨⟨⟨⟨⟨h1, h2⟩, h3⟩, h4⟩, h5⟩, h6⟩, h7⟩, h8⟩, h9⟩, h10⟩, h11⟩, h12⟩, h13⟩ := h
 refine ⟨h1, h2, h3, h4, h5, h6, h7, h8, h9, h10, fun t ht hm => ?_, fun t ht hm => ?_, fun t ht hb => ?_⟩
 ·rw [ht] at h11; simp [meets, hm] at h11
 ·rw [ht] at h12; simp [meets, hm] at h12
 ·rw [ht, hb] at h13; simp [meets] at h13
theorem mg_outc {n0 : Nat} {d e : DOp} (hp : mgPair d e = true) {s : St} {v : V} {g : Sto → Sto} (hd : Outc T C n0 d s v g) (u : V) :
 (∀ g', Outc T C n0 e { s with σ := g s.σ } u g' → g' = id ∧ Outc T C n0 e s u g') ∧ (∀ g', Outc T C n0 e s u g' → g' = id ∧ Outc T C n0 e { s with σ := g s.σ } u g') := by
 obtain ⟨h1, h2, h3, h4, h5, h6, h7, h8, h9, h10, h11, h12, h13⟩ := mgPair_spec hp
 have hfin : ∀ σ σo, e.fin n0 σ σo = σ := fun σ σo => by simp [DOp.fin, h4, h5, h8, h7]
 have hview : ∀ σ, e.view n0 σ = σ := fun σ => by simp [DOp.view, h4, h5, h9, hide]
 have hid' : ∀ {s' : St} {g'}, Outc T C n0 e s' u g' → g' = id := fun {s' g'} hh => by
  rcases hh.eff with rfl | ⟨σo, rfl⟩
  ·rfl
  ·funext σ; exact hfin σ σo
 rcases hd with ⟨hw, rfl, rfl⟩ | ⟨hw, σo, n', rfl, hle, hall⟩
 ·exact ⟨fun g' hh => ⟨hid' hh, hh⟩, fun g' hh => ⟨hid' hh, hh⟩⟩
 ·have hdfin : d.fin n0 s.σ σo = σo := by simp [DOp.fin, h3, h2]
  have hdview : d.view n0 s.σ = s.σ := by simp [DOp.view, h3, h2]
  rw [hdview] at hall
  obtain ⟨v2, σ2, n2, he, e1, e2, e3⟩ := ((opW_ment h1).1.1 (hall (fun v2 σ2 n2 => v2 = v ∧ σ2 = σo ∧ n2 = n') ⟨rfl, rfl, rfl⟩))
  subst e1; subst e2; subst e3
  obtain ⟨u', m1, m2⟩ := mg_same h1 he (e.lab n0) (e.lok n0 s.lk)
  have htop : e.lab n0 ≤ e.top n0 := by unfold DOp.top; omega
  simp only [hdfin]
  have mk : ∀ (σ1 : Sto), ev s.val σ1 (e.lab n0) (e.lok n0 s.lk) e.o.op = some (u', σ1, e.lab n0) → ∀ g', Outc T C n0 e { s with σ := σ1 } u g' → u = (if wants e.o.guard s.env then u' else .undef) := by
   intro σ1 hev g' hh
   rcases hh with ⟨hwe, hu, -⟩ | ⟨hwe, σe, ne, -, -, hq⟩
   ·have hwe' : wants e.o.guard s.env = false := hwe
    rw [hwe']; exact hu
   ·have hwe' : wants e.o.guard s.env = true := hwe
    rw [hwe', if_pos rfl]
    rw [hview] at hq
    obtain ⟨v3, σ3, n3, x1, x2, x3, x4⟩ := ((opW_ment h1).2.1 (hq (fun v3 σ3 n3 => v3 = u ∧ σ3 = σe ∧ n3 = ne) ⟨rfl, rfl, rfl⟩))
    have x1' : ev s.val σ1 (e.lab n0) (e.lok n0 s.lk) e.o.op = some (v3, σ3, n3) := x1
    rw [hev] at x1'
    cases x1'
    exact x2.symm
  have bld : ∀ (σ1 : Sto), ev s.val σ1 (e.lab n0) (e.lok n0 s.lk) e.o.op = some (u', σ1, e.lab n0) → u = (if wants e.o.guard s.env then u' else .undef) → Outc T C n0 e { s with σ := σ1 } u id := by
   intro σ1 hev hu
   cases hwe : wants e.o.guard s.env with
   | false =>
     rw [hwe] at hu
     exact .inl ⟨hwe, hu, rfl⟩
   | true =>
     rw [hwe, if_pos rfl] at hu
     subst hu
     refine .inr ⟨hwe, σ1, e.lab n0, by funext σ; exact (hfin σ σ1).symm, htop, fun Q' hq => ?_⟩
     rw [hview]
     exact (opW_ment h1).2.2 ⟨_, _, _, hev, hq⟩
  constructor
  ·intro g' hh
   have hg := hid' hh
   subst hg
   exact ⟨rfl, bld s.σ m1 (mk _ m2 _ hh)⟩
  ·intro g' hh
   have hg := hid' hh
   subst hg
   exact ⟨rfl, bld _ m2 (mk s.σ m1 _ hh)⟩
theorem mg_swapA {n0 : Nat} {d e : DOp} (hp : mgPair d e = true) {s : St} {K : St → Prop} (h : stepD T C n0 d s (fun s1 => stepD T C n0 e s1 K)) :
 stepD T C n0 e s (fun s1 => stepD T C n0 d s1 K) := by
 obtain ⟨-, -, -, -, -, -, -, -, -, -, h11, h12, h13⟩ := mgPair_spec hp
 obtain ⟨v, g, hd, h⟩ := stepD_iff.1 h
 obtain ⟨u, g', he, h⟩ := stepD_iff.1 h
 obtain ⟨hg', he0⟩ := (mg_outc hp hd u).1 g' ((outc_env h11).1 he)
 subst hg'
 have hd' : Outc T C n0 d (({ s with σ := id s.σ } : St).put e.o.dst u) v g := (outc_env h12).2 hd
 refine stepD_iff.2 ⟨u, id, he0, stepD_iff.2 ⟨v, g, hd', ?_⟩⟩
 rw [put_sig] at h ⊢
 rw [put_comm h13] at h
 have : ({ ({ s with σ := id s.σ } : St).put e.o.dst u with σ := g (id s.σ) } : St) = ({ s with σ := g s.σ } : St).put e.o.dst u := by cases e.o.dst <;> rfl
 rw [this]
 exact h
theorem mg_swapB {n0 : Nat} {d e : DOp} (hp : mgPair d e = true) {s : St} {K : St → Prop} (h : stepD T C n0 e s (fun s1 => stepD T C n0 d s1 K)) :
 stepD T C n0 d s (fun s1 => stepD T C n0 e s1 K) := by
 obtain ⟨-, -, -, -, -, -, -, -, -, -, h11, h12, h13⟩ := mgPair_spec hp
 obtain ⟨u, g', he, h⟩ := stepD_iff.1 h
 obtain ⟨v, g, hd, h⟩ := stepD_iff.1 h
 have hgi : g' = id := by
  obtain ⟨h1, h2, h3, h4, h5, h6, h7, h8, h9, h10, -⟩ := mgPair_spec hp
  rcases he.eff with rfl | ⟨σo, rfl⟩
  ·rfl
  ·funext σ; simp [DOp.fin, h4, h5, h8, h7]
 subst hgi
 have hd0 : Outc T C n0 d s v g := (outc_env h12).1 hd
 obtain ⟨-, he0⟩ := (mg_outc hp hd0 u).2 id he
 refine stepD_iff.2 ⟨v, g, hd0, stepD_iff.2 ⟨u, id, (outc_env h11).2 he0, ?_⟩⟩
 rw [put_sig] at h ⊢
 have h13' : ∀ t, e.o.dst = some t → d.o.dst ≠ some t := fun t h1 h2 => h13 t h2 h1
 rw [put_comm h13'] at h
 have : ({ ({ s with σ := g s.σ } : St).put d.o.dst v with σ := id (g s.σ) } : St) = ({ s with σ := g (id s.σ) } : St).put d.o.dst v := by cases d.o.dst <;> rfl
 rw [this]
 exact h
theorem swap2 {n0 : Nat} {d e : DOp} (hs : Sep d e) {s : St} {K : St → Prop} (h : stepD T C n0 d s (fun s1 => stepD T C n0 e s1 K)) :
 stepD T C n0 e s (fun s1 => stepD T C n0 d s1 K) := by
 have hs1 := hs.1
 unfold pairOk at hs1
 simp only [Bool.or_eq_true] at hs1
 rcases hs1 with (hs1 | hs1) | hs1
 rotate_left
 ·exact mg_swapA hs1 h
 ·exact mg_swapB hs1 h
 obtain ⟨p1, p2, p3, p4, p5, p6, p7⟩ := pairOk_spec hs1
 obtain ⟨v, g, hd, h⟩ := stepD_iff.1 h
 obtain ⟨u, g', he, h⟩ := stepD_iff.1 h
 have he0 := (outc_iff p1 p4 p5 p6 hd.eff).1 he
 refine stepD_iff.2 ⟨u, g', he0, stepD_iff.2 ⟨v, g, (outc_iff p2 p5 p4 p7 he0.eff).2 hd, ?_⟩⟩
 have hc : g (g' s.σ) = g' (g s.σ) := by
  rcases hd.eff with rfl | ⟨σd, rfl⟩ <;> rcases he0.eff with rfl | ⟨σe, rfl⟩ <;> try rfl
  exact fin_fin p4 p5 hs.2 p6 p7 n0 s.σ σd σe
 rw [put_sig] at h ⊢
 rw [put_comm p3] at h
 rw [hc]
 have : ({ ({ s with σ := g' s.σ } : St).put e.o.dst u with σ := g' (g s.σ) } : St) = ({ s with σ := g' (g s.σ) } : St).put e.o.dst u := by cases e.o.dst <;> rfl
 rw [this]
 exact h
theorem stepD_mono (hm : MonoC C) {n0 : Nat} {d : DOp} {s : St} {K K' : St → Prop} (hk : ∀ s, K s → K' s) (h : stepD T C n0 d s K) : stepD T C n0 d s K' := by
 obtain ⟨v, g, h1, h2⟩ := stepD_iff.1 h
 exact stepD_iff.2 ⟨v, g, h1, hk _ h2⟩
theorem swapL (hm : MonoC C) {n0 : Nat} {e : DOp} {Q : St → Prop} : ∀ (l1 l2 : List DOp) (s : St), (∀ d ∈ l1, Sep d e) → wpD T C n0 (l1 ++ e :: l2) s Q → wpD T C n0 (e :: (l1 ++ l2)) s Q
 | [], l2, s, _, h => h
 | d :: l1, l2, s, hs, h => by
   simp only [List.cons_append, wpD_cons] at h ⊢
   refine swap2 (hs d (by simp)) (stepD_mono hm (fun s1 h1 => ?_) h)
   have := swapL hm l1 l2 s1 (fun d' hd' => hs d' (List.mem_cons_of_mem _ hd')) h1
   rwa [wpD_cons] at this
end
end Go.Q
end

section
/- A call on trees hands back no objects but new ones. -/
namespace Go.Q
variable [Link]
def Thw (r : V) : Prop := ∀ (K : Nat → Prop) (σ : Sto) (n : Nat), OkS K σ → Ok (More K n (thaw σ n r).2.2) (thaw σ n r).1 ∧ OkS (More K n (thaw σ n r).2.2) (thaw σ n r).2.1 ∧ n ≤ (thaw σ n r).2.2 ∧ Dom σ (thaw σ n r).2.1 n (thaw σ n r).2.2
def ThwL (m : List V) : Prop := ∀ (K : Nat → Prop) (σ : Sto) (n : Nat), OkS K σ → (∀ (i : Nat) (e : V), (thawL σ n m).1[i]? = some e → Ok (More K n (thawL σ n m).2.2) e) ∧
 OkS (More K n (thawL σ n m).2.2) (thawL σ n m).2.1 ∧ n ≤ (thawL σ n m).2.2 ∧ Dom σ (thawL σ n m).2.1 n (thawL σ n m).2.2
theorem more_more {K : Nat → Prop} {n n' n'' : Nat} (h : n ≤ n') (h' : n' ≤ n'') : ∀ id, More (More K n n') n' n'' id → More K n n'' id := by
 intro id hh
 rcases hh with (hh | hh) | hh
 ·exact .inl hh
 ·exact .inr ⟨hh.1, by omega⟩
 ·exact .inr ⟨by omega, hh.2⟩
theorem thwL_cons {y : V} {m : List V} (h : Thw y) (hm : ThwL m) : ThwL (y :: m) := by
 intro K σ n hs
 obtain ⟨a1, a2, a3, a4⟩ := h K σ n hs
 obtain ⟨b1, b2, b3, b4⟩ := hm _ _ (thaw σ n y).2.2 a2
 simp only [thawL]
 refine ⟨fun i e he => ?_, b2.mono (more_more a3 b3), by omega, fun id hid => ?_⟩
 rotate_left
 ·rcases b4 id hid with h | h
  ·rcases a4 id h with h | h
   ·exact .inl h
   ·exact .inr ⟨h.1, by omega⟩
  ·exact .inr ⟨by omega, h.2⟩
 cases i with
 | zero =>
   simp at he; subst he
   exact a1.mono (fun id hh => by rcases hh with hh | hh; exact .inl hh; exact .inr ⟨hh.1, by omega⟩)
 | succ i => exact (b1 i e (by simpa using he)).mono (more_more a3 b3)
theorem thwL_nil : ThwL [] := fun K σ n hs => by simp [thawL]; exact ⟨hs.mono more_sub, Dom.refl⟩
theorem thw_leaf {r : V} (ht : ∀ σ n, thaw σ n r = (r, σ, n)) (h : ∀ K, Ok K r) : Thw r := fun K σ n hs => by
 rw [ht]; exact ⟨h _, hs.mono more_sub, Nat.le_refl _, Dom.refl⟩
theorem thwL_all : ∀ (l m : List V) (f : V → Option V), (∀ x y, x ∈ l → f x = some y → Thw y) → l.mapM f = some m → ThwL m
 | [], m, f, _, h => by simp at h; subst h; exact thwL_nil
 | x :: l, m, f, hf, h => by
   simp only [List.mapM_cons, Option.pure_def, Option.bind_eq_bind, Option.bind_eq_some_iff, Option.some.injEq] at h
   obtain ⟨y, hy, m', hm, rfl⟩ := h
   exact thwL_cons (hf x y (by simp) hy) (thwL_all l m' f (fun x' y' hx' => hf x' y' (List.mem_cons_of_mem _ hx')) hm)
theorem thw_agg {m : List V} (h : ThwL m) : Thw (.agg m) := fun K σ n hs => by
 obtain ⟨a1, a2, a3, a4⟩ := h K σ n hs
 simp only [thaw]
 exact ⟨.agg _ a1, a2, a3, a4⟩
section
variable {w : World} {X : Nat → Prop} {ι : Nat → Nat} {σ : Sto} {n : Nat}
theorem giv_thw {K0 : Nat → Prop} (hs : OkS K0 σ) : ∀ (k : Nat) (v r : V), giv σ k v = some r → Ok K0 v → Thw r := by
 intro k
 induction k with
 | zero => intro v r h; simp [giv] at h
 | succ k ih =>
   have ihE : ∀ x y, elemM (giv σ k) x = some y → Ok K0 x → Thw y := by
    intro x y h hx
    unfold elemM at h
    split at h
    ·rename_i cs
     simp only [Option.map_eq_some_iff] at h
     obtain ⟨cs', hcs, rfl⟩ := h
     cases hx with
     | agg _ hx => exact thw_agg (thwL_all cs cs' _ (fun x y hm hy => ih x y hy (ok_mem.1 hx x hm)) hcs)
    ·exact ih _ _ h hx
   intro v r h hv
   cases hv with
   | int q m => simp [giv] at h; subst h; exact thw_leaf (fun _ _ => by simp [thaw]) (fun _ => .int q m)
   | bool b => simp [giv] at h; subst h; exact thw_leaf (fun _ _ => by simp [thaw]) (fun _ => .bool b)
   | str s => simp [giv] at h; subst h; exact thw_leaf (fun _ _ => by simp [thaw]) (fun _ => .str s)
   | nilS => simp [giv] at h; subst h; exact thw_leaf (fun _ _ => by simp [thaw]) (fun _ => .nilS)
   | nilP => simp [giv] at h; subst h; exact thw_leaf (fun _ _ => by simp [thaw]) (fun _ => .nilP)
   | nilF => simp [giv] at h; subst h; exact thw_leaf (fun _ _ => by simp [thaw]) (fun _ => .nilF)
   | nilI => simp [giv] at h; subst h; exact thw_leaf (fun _ _ => by simp [thaw]) (fun _ => .nilI)
   | nilM => simp [giv] at h; subst h; exact thw_leaf (fun _ _ => by simp [thaw]) (fun _ => .nilM)
   | mp id h' => simp [giv] at h
   | it id h' => simp [giv] at h
   | undef => simp [giv] at h; subst h; exact thw_leaf (fun _ _ => by simp [thaw]) (fun _ => .undef)
   | yld l h' => simp [giv] at h
   | bnd f cs h' => simp [giv] at h
   | ptr id sz i j h' => simp [giv] at h
   | sl sz xs h' => simp [giv] at h; subst h; exact thw_leaf (fun _ _ => by simp [thaw]) (fun _ => .sl sz xs h')
   | box cs h' => simp [giv] at h; subst h; exact thw_leaf (fun _ _ => by simp [thaw]) (fun _ => .box cs h')
   | fn f cs h' =>
     cases cs with
     | nil => simp [giv] at h; subst h; exact thw_leaf (fun _ _ => by simp [thaw]) (fun _ => .fn f [] (fun i e he => by simp at he))
     | cons c cs => simp [giv] at h
   | iface t x h' =>
     simp only [giv, Option.map_eq_some_iff] at h
     obtain ⟨y, hy, rfl⟩ := h
     intro K σ' n' hs'
     obtain ⟨a1, a2, a3, a4⟩ := ih x y hy h' K σ' n' hs'
     simp only [thaw]
     exact ⟨.iface _ _ a1, a2, a3, a4⟩
   | agg cs h' =>
     simp only [giv, Option.map_eq_some_iff] at h
     obtain ⟨m, hm, rfl⟩ := h
     exact thw_agg (thwL_all cs m _ (fun x y hx hy => ih x y hy (ok_mem.1 h' x hx)) hm)
   | tup cs h' =>
     simp only [giv, Option.map_eq_some_iff] at h
     obtain ⟨m, hm, rfl⟩ := h
     intro K σ' n' hs'
     obtain ⟨a1, a2, a3, a4⟩ := thwL_all cs m _ (fun x y hx hy => ih x y hy (ok_mem.1 h' x hx)) hm K σ' n' hs'
     simp only [thaw]
     exact ⟨.tup _ a1, a2, a3, a4⟩
   | ref id off len sz h' =>
     simp only [giv] at h
     split at h
     ·rename_i sz' xs hrow
      split at h
      ·simp only [Option.map_eq_some_iff] at h
       obtain ⟨m, hm, rfl⟩ := h
       intro K σ' n' hs'
       obtain ⟨a1, a2, a3, a4⟩ := thwL_all xs m _ (fun x y hx hy => ihE x y hy (ok_mem.1 (fun i x hx => hs.1 _ _ _ hrow i x hx) x hx)) hm K σ' n' hs'
       simp only [thaw]
       have hsub : ∀ id, More K n' (thawL σ' n' m).2.2 id → More K n' ((thawL σ' n' m).2.2 + 1) id := fun id hh => by
        rcases hh with hh | hh
        ·exact .inl hh
        ·exact .inr ⟨hh.1, by omega⟩
       exact ⟨.ref _ _ _ _ (.inr ⟨a3, by omega⟩), (a2.mono hsub).upd_row (fun i x hx => (a1 i x hx).mono hsub), by omega, fun id' hid => by
        by_cases e : id' = (thawL σ' n' m).2.2
        ·right; omega
        ·rcases a4 id' (by simpa [upd, e] using hid) with h | h
         ·exact .inl h
         ·exact .inr ⟨h.1, by omega⟩⟩
      ·cases h
     ·cases h
theorem wf_ok (hw : WF w X ι σ n) : OkS (fun id => id < n ∧ ι id < w.heap.size) σ := by
 refine ⟨fun id sz xs hs i x hx => ?_, fun id env ps a b st pend hs t => ?_, fun id o hs => ?_⟩
 ·obtain ⟨cells, ty, u, a1, a2, a3, a4, a5⟩ := hw.row id sz xs hs
  exact ok_of_cells (fun j e he => rep_ok (a5 i x j e hx he))
 ·obtain ⟨r, a1, a2⟩ := hw.loop id _ _ _ _ _ _ hs
  exact rep_ok (a2.rep t)
 ·have hm := hw.mi id o hs
  cases o with
  | row => trivial
  | loop => trivial
  | map es clk =>
    obtain ⟨mes, a1, a2, a3⟩ := hm
    intro i e he
    have hi : i < mes.size := by have := (List.getElem?_eq_some_iff.1 he).1; omega
    obtain ⟨b1, b2, b3⟩ := a3 i e mes[i] he (Array.getElem?_eq_getElem hi)
    exact ⟨rep_ok b2, rep_ok b3⟩
  | iter m since seen last =>
    obtain ⟨a1, a0, a2⟩ := hm
    exact ⟨a1, a0⟩
theorem back_thw {m : Mode} {w' : World} {X0 : Nat → Prop} {r : V} {u : Value} (h : Back m w w' X0 r u) : Thw r := by
 obtain ⟨X1, ι1, σ1, n1, v, hw1, hr1, hback, he⟩ := h
 by_cases hm : m = .own
 ·subst hm
  exact giv_thw (wf_ok hw1) DEEP v r hback.1 (rep_ok hr1)
 ·have hfrz : frz σ1 DEEP v = some r := by
   cases m <;> simp only [back] at hback <;> first | exact hback | exact absurd rfl hm
  refine thw_leaf (thaw_frz DEEP v r hfrz) (fun K => ?_)
  have := frz_rep (ι' := fun _ => 0) (n' := 0) hw1 (D := rch σ1 DEEP v) DEEP v r u hfrz hr1 (fun _ h => h)
  exact (rep_ok this).mono (fun id h => by omega)
end
section
variable [Glob] {P : Program} {T : Tab} [PrimsOk P T] [PrimsSay T] {w : World} {X : Nat → Prop} {ι : Nat → Nat} {σ : Sto} {n lk : Nat} {ρ' : Opd → V}
def Says (ρ' : Opd → V) (σ : Sto) (n : Nat) (ai : AI) (v : V) (σ' : Sto) (n' : Nat) : Prop :=
 ∀ K : Nat → Prop, (∀ x ∈ ai.opds, Ok K (ρ' x)) → OkS K σ → Ok (More K n n') v ∧ OkS (More K n n') σ' ∧ Dom σ σ' n n'
theorem zeros_ok {o : Oper} {ai : AI} (hc : cOp P o = some ai) : ∀ e ∈ ai.zeros, Ok (fun _ => False) e := by
 have key : ∀ {t : TypeId} {i : TI}, ti P t = some i → Ok (fun _ => False) i.zero := fun {t i} hi => by
  obtain ⟨_, j, z, _, _, _, _, hz⟩ := ti_spec hi
  exact (rep_ok (ofValA_rep (w := default) (X := fun _ => False) (ι := fun _ => 0) (n := 0) hz)).mono (fun id h => by omega)
 have keyc : ∀ {t : TypeId} {i : TI}, ti P t = some i → ∀ e ∈ i.zero.cells, Ok (fun _ => False) e := fun hi e he => ok_mem.1 (Ok.cells (key hi)) e he
 obtain ⟨dst, op, ty, pos, after, guard⟩ := o
 intro e he
 cases ai <;> simp only [AI.zeros, List.not_mem_nil] at he
 case alloc z =>
  simp at he; subst he
  cases op <;> simp only [cOp, reduceCtorEq] at hc
  all_goals
   repeat' (first | (simp only [Option.bind_eq_bind, Option.bind_eq_some_iff, Option.map_eq_some_iff, Option.some.injEq, reduceCtorEq, and_false, exists_false] at hc; done) |
    (simp only [Option.bind_eq_bind, Option.bind_eq_some_iff, Option.map_eq_some_iff, Option.some.injEq, reduceCtorEq, and_false, exists_false, AI.alloc.injEq] at hc) | (obtain ⟨_, _, hc⟩ := hc) | split at hc | (subst hc; exact key (by assumption)) | exact key (by assumption) | cases hc)
 case build z ps =>
  cases op <;> simp only [cOp, reduceCtorEq] at hc
  all_goals
   repeat' (first | (simp only [Option.bind_eq_bind, Option.bind_eq_some_iff, Option.map_eq_some_iff, Option.some.injEq, reduceCtorEq, and_false, exists_false] at hc; done) |
    (simp only [Option.bind_eq_bind, Option.bind_eq_some_iff, Option.map_eq_some_iff, Option.some.injEq, reduceCtorEq, and_false, exists_false, AI.build.injEq] at hc) | (obtain ⟨rfl, _⟩ := hc; exact keyc (by assumption) e he) | (obtain ⟨_, _, hc⟩ := hc) | split at hc | cases hc)
 case tas ok t z x =>
  simp at he; subst he
  cases op <;> simp only [cOp, reduceCtorEq] at hc
  all_goals
   repeat' (first | (simp only [Option.bind_eq_bind, Option.bind_eq_some_iff, Option.map_eq_some_iff, Option.some.injEq, reduceCtorEq, and_false, exists_false] at hc; done) |
    (simp only [Option.bind_eq_bind, Option.bind_eq_some_iff, Option.map_eq_some_iff, Option.some.injEq, reduceCtorEq, and_false, exists_false, AI.tas.injEq] at hc) | (obtain ⟨_, _, rfl, _⟩ := hc; exact key (by assumption)) | (obtain ⟨_, _, hc⟩ := hc) | split at hc | cases hc)
 case mget ok kk z m k =>
  simp at he; subst he
  cases op <;> simp only [cOp, reduceCtorEq] at hc
  case lookup t m k ok =>
   simp only [Option.bind_eq_bind, Option.bind_eq_some_iff, Option.some.injEq] at hc
   obtain ⟨⟨kk', z'⟩, hkk, m', hm, k', hk, hc⟩ := hc
   simp only [AI.mget.injEq] at hc
   obtain ⟨-, -, rfl, -⟩ := hc
   obtain ⟨kt, e, j, ht, hkk, hj, rfl⟩ := cMap_spec hkk
   exact key hj
  all_goals
   exfalso
   repeat' (first | (simp only [Option.bind_eq_bind, Option.bind_eq_some_iff, Option.map_eq_some_iff, Option.some.injEq, reduceCtorEq, and_false, exists_false] at hc; done) |
    (simp only [Option.bind_eq_bind, Option.bind_eq_some_iff, Option.map_eq_some_iff, Option.some.injEq, reduceCtorEq, and_false, exists_false] at hc) | (obtain ⟨_, _, hc⟩ := hc) | split at hc | cases hc)
 case ment kk z m k =>
  simp at he; subst he
  cases op <;> simp only [cOp, reduceCtorEq] at hc
  case mapEntry t m k =>
   simp only [Option.bind_eq_bind, Option.bind_eq_some_iff, Option.some.injEq] at hc
   obtain ⟨⟨kk', z'⟩, hkk, m', hm, k', hk, hc⟩ := hc
   simp only [AI.ment.injEq] at hc
   obtain ⟨-, rfl, -⟩ := hc
   obtain ⟨kt, e, j, ht, hkk, hj, rfl⟩ := cMap_spec hkk
   exact key hj
  all_goals
   exfalso
   repeat' (first | (simp only [Option.bind_eq_bind, Option.bind_eq_some_iff, Option.map_eq_some_iff, Option.some.injEq, reduceCtorEq, and_false, exists_false] at hc; done) |
    (simp only [Option.bind_eq_bind, Option.bind_eq_some_iff, Option.map_eq_some_iff, Option.some.injEq, reduceCtorEq, and_false, exists_false] at hc) | (obtain ⟨_, _, hc⟩ := hc) | split at hc | cases hc)
 case mksl sz bytes z len =>
  simp at he; subst he
  cases op <;> simp only [cOp, reduceCtorEq] at hc
  all_goals
   repeat' (first | (simp only [Option.bind_eq_bind, Option.bind_eq_some_iff, Option.map_eq_some_iff, Option.some.injEq, reduceCtorEq, and_false, exists_false] at hc; done) |
    (simp only [Option.bind_eq_bind, Option.bind_eq_some_iff, Option.map_eq_some_iff, Option.some.injEq, reduceCtorEq, and_false, exists_false, AI.mksl.injEq] at hc) | (obtain ⟨_, _, rfl, _⟩ := hc; exact key (by assumption)) | (obtain ⟨_, _, hc⟩ := hc) | split at hc | cases hc)
theorem callW_says {f : Nat} {args : List V} {us : Array Value} {Q : V → Sto → Nat → Prop} (hw : WF w X ι σ n) (hi : Glob.inv w X) (hr : Reps w X ι n args us) (h : callW T (sndC P T) false f args σ n lk Q) :
 callW T (sndC P T) false f args σ n lk (fun v σ' n' => Q v σ' n' ∧ ∀ K : Nat → Prop, OkS K σ → Ok (More K n n') v ∧ OkS (More K n n') σ' ∧ Dom σ σ' n n') := by
 unfold callW at *
 cases hm : T.mode f <;> simp only [hm] at h ⊢
 case raw => simp at h
 all_goals
  obtain ⟨ts, h1, r, h2, D, h3, h4, h5, h6⟩ := h
  refine ⟨ts, h1, r, h2, D, h3, h4, h5, h6, ?_⟩
  have hD : D = [] := h4 trivial
  subst hD
  rw [dropL_nil]
  obtain ⟨b1, b2⟩ := args_frz hw h1 hr.1 hr.2
  obtain ⟨_, hcall⟩ := h2
  obtain ⟨_, hcall⟩ := hcall w (cutX X ι σ (args.flatMap (rch σ DEEP))) us (fun b hb => hw.xlt b hb.1) ⟨b1, b2⟩ (Glob.sub hi (fun b hb => hb.1))
  obtain ⟨e, w', fr, ⟨u, r2, rfl, he, hb⟩, _⟩ := hcall [] (room_wide _)
  cases he
  have ht := back_thw hb
  exact fun K hs => ⟨(ht K σ n hs).1, (ht K σ n hs).2.1, (ht K σ n hs).2.2.2⟩
theorem opW_says {ρ : Operand → Value} {o : Oper} {ai : AI} {Q : V → Sto → Nat → Prop} (hw : WF w X ι σ n) (hi : Glob.inv w X)
 (hρ : ∀ (x : Operand) (x' : Opd), cOpd x = some x' → Rep w X ι n (ρ' x') (ρ x)) (hc : cOp P o = some ai)
 (h : opW T (sndC P T) false ρ' σ n lk ai Q) : opW T (sndC P T) false ρ' σ n lk ai (fun v σ' n' => Q v σ' n' ∧ Says ρ' σ n ai v σ' n') := by
 by_cases hinv : ∃ x tbl es, ai = .inv x tbl es
 ·obtain ⟨x, tbl, es, rfl⟩ := hinv
  simp only [opW] at h
  exact absurd h.1 (by simp)
 by_cases hcall : ∃ g es, ai = .callv g es ∨ ∃ f, ai = .call f es
 ·obtain ⟨g, es, hai⟩ := hcall
  obtain ⟨c, hop, x, hcal, es', hes, hx⟩ := call_shape hc hai
  obtain ⟨e1, e2⟩ := cOpds_spec hes hρ
  have hreps : Reps w X ι n (es'.map ρ') (c.args.map ρ) := ⟨by simpa using e1.symm, fun i e u he hu => e2 i e u he (by simpa using hu)⟩
  rcases hx with ⟨f, rfl, rfl⟩ | ⟨g', hg, rfl⟩
  ·simp only [opW] at h ⊢
   have := callW_says hw hi hreps h
   exact callW_mono (fun _ _ h => h) (sndC_mono P T) (fun v σ' n' hh => ⟨hh.1, fun K _ hs => hh.2 K hs⟩) this
  ·simp only [opW] at h ⊢
   have hgr := hρ _ _ hg
   split at h
   ·rename_i f caps hval
    rw [hval] at hgr
    generalize hu : ρ x = u at hgr
    cases hgr with
    | fn _ _ cus hl' hr' =>
      have hreps' : Reps w X ι n (es'.map ρ' ++ caps) (c.args.map ρ ++ cus) := by
       refine ⟨by rw [Array.size_append, List.length_append, hreps.1, hl'], fun i e u he hu => ?_⟩
       rw [List.getElem?_append] at he
       rw [Array.getElem?_append] at hu
       rw [hreps.1] at hu
       split at he <;> rename_i hlt
       ·rw [if_pos hlt] at hu; exact hreps.2 i e u he hu
       ·rw [if_neg hlt] at hu; exact hr' _ e u he hu
      exact callW_mono (fun _ _ h => h) (sndC_mono P T) (fun v σ' n' hh => ⟨hh.1, fun K _ hs => hh.2 K hs⟩) (callW_says hw hi hreps' h)
   ·rename_i f bs hval
    rw [hval] at hgr
    generalize hu : ρ x = u at hgr
    cases hgr with
    | bnd _ _ bus hl' hr' =>
      have hreps' : Reps w X ι n (bs ++ es'.map ρ') (bus ++ c.args.map ρ) := by
       refine ⟨by rw [Array.size_append, List.length_append, hreps.1, hl'], fun i e u he hu => ?_⟩
       rw [List.getElem?_append] at he
       rw [Array.getElem?_append] at hu
       rw [← hl'] at hu
       split at he <;> rename_i hlt
       ·rw [if_pos hlt] at hu; exact hr' i e u he hu
       ·rw [if_neg hlt] at hu; exact hreps.2 _ e u he hu
      exact callW_mono (fun _ _ h => h) (sndC_mono P T) (fun v σ' n' hh => ⟨hh.1, fun K _ hs => hh.2 K hs⟩) (callW_says hw hi hreps' h)
   ·simp at h
   ·exact h.elim
 ·unfold opW at h ⊢
  split at h
  ·exact absurd ⟨.con .undef, _, .inr ⟨_, rfl⟩⟩ hcall
  ·exact absurd ⟨_, _, .inl rfl⟩ hcall
  ·exact absurd ⟨_, _, _, rfl⟩ hinv
  ·simp at h
  ·rename_i f args
   split at h
   ·rename_i v σ' n' he
    refine ⟨h, fun K hk hs => ?_⟩
    unfold primE at he
    split at he
    ·rename_i p hp
     refine PrimsSay.says f p hp K _ σ n lk (fun x hx => ?_) hs v σ' n' he
     obtain ⟨y, hy, rfl⟩ := List.mem_map.1 hx
     exact hk y hy
    ·cases he
   ·exact h.elim
  ·split at h
   ·rename_i v σ' n' he
    refine ⟨h, fun K hk hs => ?_⟩
    exact ev_ok hk (zeros_ok hc) hs v σ' n' he
   ·exact h.elim
end
end Go.Q
end

section
/- A region that draws its order: what its table says; objects of the store, one by one. -/
namespace Go.Q
def befAt (bef : List Nat) (i j : Nat) : Bool := ((bef[i]?).getD 0).testBit j
structure RegSt (P : Program) (N : Nat) (ops : Array Oper) (bef : List Nat) (os : List AOp) : Prop where
 hlen : os.length = ops.size
 hcomp : ∀ (i : Nat) (o' : AOp), os[i]? = some o' → ∃ o, ops[i]? = some o ∧ cOper P N ops o = some o' ∧ (∀ t, Operand.tmp t ∈ o.op.operands.toList → t ∈ o'.reads) ∧ ∀ v, Opd.con v ∈ o'.op.opds → v.plain = true
 hbef : ∀ (i : Nat) (o : Oper) (j : Nat), ops[i]? = some o → j < ops.size → befAt bef i j = true →
  j < i ∧ ∃ e ∈ o.after.toList, Region.binds .any e = true ∧ (e.on = j ∨ befAt bef e.on j = true)
 hedge : ∀ (i : Nat) (o : Oper), ops[i]? = some o → ∀ e ∈ o.after.toList, Region.binds .any e = true → e.on < i
structure Sta (P : Program) (N : Nat) (ops : Array Oper) (bef : List Nat) (ds : List DOp) (tot lo : Nat) : Prop where
 hwin : lo + ds.length ≤ ops.size
 hcomp : ∀ (i : Nat) (d : DOp), ds[i]? = some d → ∃ o, ops[lo + i]? = some o ∧ cOper P N ops o = some d.o ∧ ∀ t, Operand.tmp t ∈ o.op.operands.toList → t ∈ d.o.reads
 hbef : ∀ (i : Nat) (o : Oper) (j : Nat), ops[i]? = some o → j < ops.size → befAt bef i j = true →
  j < i ∧ ∃ e ∈ o.after.toList, Region.binds .any e = true ∧ (e.on = j ∨ befAt bef e.on j = true)
 hedge : ∀ (i : Nat) (o : Oper), ops[i]? = some o → ∀ e ∈ o.after.toList, Region.binds .any e = true → e.on < i
 htop : ∀ (i : Nat) (d : DOp), ds[i]? = some d → d.rank + (if d.lays then 1 else 0) ≤ tot
 hpure : ∀ (i : Nat) (d : DOp), ds[i]? = some d → d.pure = true → d.lays = false
 hlo : ∀ (i : Nat) (d : DOp), ds[i]? = some d → d.lo ≤ d.rank
 hcon : ∀ (i : Nat) (d : DOp), ds[i]? = some d → ∀ v, Opd.con v ∈ d.o.op.opds → v.plain = true
 hpair : ∀ (i j : Nat) (d e : DOp), i < j → ds[i]? = some d → ds[j]? = some e → d.rank + (if d.lays then 1 else 0) ≤ e.rank ∧ (apart bef (lo + i) (lo + j) = true → pairOk d e = true)
theorem okDraw_spec {bef : List Nat} {tot : Nat} : ∀ (ds : List DOp) (k : Nat), okDraw bef tot ds k = true →
 (∀ (i : Nat) (d : DOp), ds[i]? = some d → d.rank + (if d.lays then 1 else 0) ≤ tot ∧ (d.pure = true → d.lays = false) ∧ d.lo ≤ d.rank) ∧
 ∀ (i j : Nat) (d e : DOp), i < j → ds[i]? = some d → ds[j]? = some e → d.rank + (if d.lays then 1 else 0) ≤ e.rank ∧ (apart bef (k + i) (k + j) = true → pairOk d e = true)
 | [], k, _ => ⟨fun i d h => by simp at h, fun i j d e _ h => by simp at h⟩
 | d :: ds, k, h => by
   simp only [okDraw, Bool.and_eq_true, decide_eq_true_eq, Bool.or_eq_true, Bool.not_eq_true', List.all_eq_true] at h
   obtain ⟨⟨⟨⟨h1, h2⟩, h0⟩, h3⟩, h4⟩ := h
   obtain ⟨i1, i2⟩ := okDraw_spec ds (k + 1) h4
   refine ⟨fun i d' hd => ?_, fun i j d' e hij hd he => ?_⟩
   ·cases i with
    | zero =>
      simp at hd; subst hd
      refine ⟨h1, fun hp => ?_, h0⟩
      rcases h2 with h2 | h2
      ·rw [hp] at h2; cases h2
      ·exact h2.2
    | succ i => exact i1 i d' (by simpa using hd)
   ·cases j with
    | zero => omega
    | succ j =>
      have he' : ds[j]? = some e := by simpa using he
      cases i with
      | zero =>
        simp at hd; subst hd
        have := h3 (e, j) (List.mem_zipIdx_iff_getElem?.2 he')
        simp only at this
        refine ⟨this.1, fun ha => ?_⟩
        rcases this.2 with h5 | h5
        ·rw [show k + (j + 1) = k + 1 + j by omega, Nat.add_zero] at ha
         rw [ha] at h5; cases h5
        ·exact h5
      | succ i =>
        obtain ⟨a1, a2⟩ := i2 i j d' e (by omega) (by simpa using hd) he'
        exact ⟨a1, fun ha => a2 (by rw [show k + 1 + i = k + (i + 1) by omega, show k + 1 + j = k + (j + 1) by omega]; exact ha)⟩
theorem cDraw_spec [Link] {P : Program} {N : Nat} {own : Nat → Bool} {ops : Array Oper} {segs : List Seg} (h : cDraw P N own ops = some segs) :
 ∃ bef os, RegSt P N ops bef os ∧ mkSegs bef own os.length (os.length + 1) 0 os = some segs := by
 simp only [cDraw, Option.bind_eq_bind, Option.bind_eq_some_iff] at h
 obtain ⟨bef, hb, os, hos, h⟩ := h
 split at h
 ·rename_i hc
  simp only [Bool.and_eq_true, okOps] at hc
  obtain ⟨hbo, hall, hcon⟩ := hc
  obtain ⟨m1, m2⟩ := mapM_get _ _ _ hos
  refine ⟨bef, os, ⟨by rw [← m1]; simp, fun i o' hod => ?_, fun i o j ho hj ht => ?_, fun i o ho e he hb => ?_⟩, h⟩
  ·have hi : i < ops.toList.length := by rw [m1]; exact (List.getElem?_eq_some_iff.1 hod).1
   have hoi : ops.toList[i]? = some ops.toList[i] := List.getElem?_eq_getElem hi
   refine ⟨ops.toList[i], by simp, m2 i _ _ hoi hod, fun t ht => ?_, fun v hv => ?_⟩
   ·have := List.all_eq_true.1 hall (ops.toList[i], o') (List.mem_of_getElem? (i := i) (by rw [List.getElem?_zip_eq_some]; exact ⟨hoi, hod⟩))
    have := List.all_eq_true.1 this _ ht
    simpa using this
   ·have := List.all_eq_true.1 hcon o' (List.mem_of_getElem? hod)
    have := List.all_eq_true.1 this _ hv
    simpa using this
  ·simp only [befOk, List.all_eq_true] at hbo
   have ho' : ops.toList[i]? = some o := by simpa using ho
   have := (Bool.and_eq_true _ _ ▸ hbo (o, i) (List.mem_zipIdx_iff_getElem?.2 ho')).2
   simp only [List.all_eq_true, Bool.or_eq_true, Bool.not_eq_true', Bool.and_eq_true, decide_eq_true_eq, List.any_eq_true] at this
   have := this j (List.mem_range.2 (by simpa using hj))
   rcases this with h | ⟨h1, e, he, h2, h3⟩
   ·unfold befAt at ht; rw [h] at ht; cases ht
   ·refine ⟨h1, e, he, h2, ?_⟩
    rcases h3 with h3 | h3
    ·left; simpa using h3
    ·right; exact h3
  ·simp only [befOk, List.all_eq_true] at hbo
   have ho' : ops.toList[i]? = some o := by simpa using ho
   have := (Bool.and_eq_true _ _ ▸ hbo (o, i) (List.mem_zipIdx_iff_getElem?.2 ho')).1
   have := List.all_eq_true.1 this e he
   simpa [hb] using this
 ·cases h
theorem mkWin_spec [Link] {P : Program} {N : Nat} {own : Nat → Bool} {ops : Array Oper} {bef : List Nat} {os win : List AOp} {lo : Nat} (hr : RegSt P N ops bef os)
 (hwin : ∀ (i : Nat) (o' : AOp), win[i]? = some o' → os[lo + i]? = some o') (hle : lo + win.length ≤ ops.size) (hok : okDraw bef (mkWin bef own lo win).2 (mkWin bef own lo win).1 lo = true) :
 Sta P N ops bef (mkWin bef own lo win).1 (mkWin bef own lo win).2 lo ∧ (mkWin bef own lo win).1.length = win.length := by
 obtain ⟨o1, o2⟩ := okDraw_spec _ lo hok
 have hlen : (mkWin bef own lo win).1.length = win.length := by simp [mkWin]
 have hget : ∀ (i : Nat) (d : DOp), (mkWin bef own lo win).1[i]? = some d → win[i]? = some d.o := by
  intro i d hd
  simp only [mkWin] at hd
  rw [List.getElem?_map, Option.map_eq_some_iff] at hd
  obtain ⟨⟨o, j⟩, ho, hd⟩ := hd
  rw [List.getElem?_zipIdx, Option.map_eq_some_iff] at ho
  obtain ⟨o', ho', he⟩ := ho
  simp only [Prod.mk.injEq] at he
  obtain ⟨rfl, rfl⟩ := he
  rw [← hd]; exact ho'
 refine ⟨⟨by rw [hlen]; exact hle, fun i d hd => ?_, hr.hbef, hr.hedge, fun i d hd => (o1 i d hd).1, fun i d hd => (o1 i d hd).2.1, fun i d hd => (o1 i d hd).2.2, fun i d hd v hv => ?_, fun i j d e hij hd he => o2 i j d e hij hd he⟩, hlen⟩
 ·obtain ⟨o, p1, p2, p3, -⟩ := hr.hcomp (lo + i) d.o (hwin i _ (hget i d hd))
  exact ⟨o, p1, p2, p3⟩
 ·obtain ⟨o, p1, p2, p3, p4⟩ := hr.hcomp (lo + i) d.o (hwin i _ (hget i d hd))
  exact p4 v hv
section
variable [Link] {w w' : World} {X X' : Nat → Prop} {ι ι' : Nat → Nat} {σ σ' : Sto} {n n' m m' id : Nat}
def ObRep (w : World) (X : Nat → Prop) (ι : Nat → Nat) (m id : Nat) : Ob → Prop
 | .row sz xs => ∃ (cells : Array Value) (ty : TypeId) (u : Nat → Nat → Value),
  w.heap[ι id]? = some (.cells cells ty (0, 0)) ∧ xs.length * sz ≤ cells.size ∧
  (∀ (i : Nat) (x : V), xs[i]? = some x → x.cells.length = sz ∧ x.cells.all V.one = true) ∧
  (∀ (i : Nat) (x : V) (j : Nat) (e : V), xs[i]? = some x → x.cells[j]? = some e → cells[i * sz + j]? = some (u i j)) ∧
  (∀ (i : Nat) (x : V) (j : Nat) (e : V), xs[i]? = some x → x.cells[j]? = some e → Rep w X ι m e (u i j))
 | .loop env ps a b st pend => ∃ r : Loop, w.heap[ι id]? = some (.loop r) ∧ LoopRep w X ι m r env ps a b st pend
 | o => MI w X ι m (ι id) o
theorem WF.ob (h : WF w X ι σ n) {o : Ob} (hs : σ id = some o) : ObRep w X ι n id o := by
 cases o with
 | row sz xs => exact h.row id sz xs hs
 | loop env ps a b st pend => exact h.loop id _ _ _ _ _ _ hs
 | map es clk => exact h.mi id _ hs
 | iter m since seen last => exact h.mi id _ hs
theorem WF.of_ob (h : ∀ id o, σ id = some o → ObRep w X ι n id o) (own : ∀ id, σ id ≠ none → X (ι id)) (inj : ∀ id id', σ id ≠ none → σ id' ≠ none → ι id = ι id' → id = id')
 (dom : ∀ id, σ id ≠ none → id < n) (xlt : ∀ b, X b → b < w.heap.size) : WF w X ι σ n :=
 ⟨fun id sz xs hs => h id _ hs, fun l env ps a b st pend hs => h l _ hs, own, inj, dom, xlt, fun id o hs => by
  cases o with
  | row => trivial
  | loop => trivial
  | map es clk => exact h id _ hs
  | iter m since seen last => exact h id _ hs⟩
theorem ObRep.move' (h1 : w.heap.size ≤ w'.heap.size) (h2 : ∀ b, b < w.heap.size → ¬ X b → w'.heap[b]? = w.heap[b]?)
 (h3 : ∀ (b : Nat) c t f, w.heap[b]? = some (.cells c t f) → ∃ c', w'.heap[b]? = some (.cells c' t f) ∧ c'.size = c.size)
 (h4 : ∀ id, id < m → ι id < w.heap.size → ι' id = ι id) (h5 : ∀ b, b < w.heap.size → X' b → X b) (h6 : m ≤ m') (hb : w'.heap[ι' id]? = w.heap[ι id]?) {o : Ob} (h : ObRep w X ι m id o) :
 ObRep w' X' ι' m' id o := by
 cases o with
 | row sz xs =>
   obtain ⟨cells, ty, u, a1, a2, a3, a4, a5⟩ := h
   exact ⟨cells, ty, u, hb.trans a1, a2, a3, a4, fun i x j e hx he => (a5 i x j e hx he).move' h1 h2 h3 h4 h5 h6⟩
 | loop env ps a b st pend =>
   obtain ⟨r, a1, a2⟩ := h
   exact ⟨r, hb.trans a1, a2.hst, a2.hpend, a2.hpn, a2.hps, a2.code, fun t => (a2.rep t).move' h1 h2 h3 h4 h5 h6⟩
 | map es clk =>
   obtain ⟨mes, a1, a2, a3⟩ := h
   exact ⟨mes, hb.trans a1, a2, fun i e me he hm => let ⟨x, y, z⟩ := a3 i e me he hm; ⟨x, y.move' h1 h2 h3 h4 h5 h6, z.move' h1 h2 h3 h4 h5 h6⟩⟩
 | iter m since seen last =>
   obtain ⟨a1, a0, a2⟩ := h
   exact ⟨by omega, by rw [h4 m a1 a0]; omega, by rw [h4 m a1 a0]; exact hb.trans a2⟩
def OkOb (K : Nat → Prop) : Ob → Prop
 | .row _ xs => ∀ (i : Nat) (x : V), xs[i]? = some x → Ok K x
 | .loop env .. => ∀ t, Ok K (env t)
 | o => OkO K o
theorem OkS.ob {K : Nat → Prop} (h : OkS K σ) {o : Ob} (hs : σ id = some o) : OkOb K o := by
 cases o with
 | row sz xs => exact h.1 id sz xs hs
 | loop env ps a b st pend => exact h.2.1 id _ _ _ _ _ _ hs
 | map es clk => exact h.2.2 id _ hs
 | iter m since seen last => exact h.2.2 id _ hs
theorem ObRep.on {K : Nat → Prop} {o : Ob} (h : ObRep w X ι m id o) (hk : OkOb K o) (hι : ∀ id, K id → ι' id = ι id) (hm : ∀ id, K id → id < m') (hid : ι' id = ι id) : ObRep w X ι' m' id o := by
 cases o with
 | row sz xs =>
   obtain ⟨cells, ty, u, a1, a2, a3, a4, a5⟩ := h
   exact ⟨cells, ty, u, by rw [hid]; exact a1, a2, a3, a4, fun i x j e hx he => (a5 i x j e hx he).on (Ok.cells (hk i x hx) j e he) hι hm⟩
 | loop env ps a b st pend =>
   obtain ⟨r, a1, a2⟩ := h
   exact ⟨r, by rw [hid]; exact a1, a2.hst, a2.hpend, a2.hpn, a2.hps, a2.code, fun t => (a2.rep t).on (hk t) hι hm⟩
 | map es clk =>
   obtain ⟨mes, a1, a2, a3⟩ := h
   exact ⟨mes, by rw [hid]; exact a1, a2, fun i e me he hme => let ⟨x, y, z⟩ := a3 i e me he hme; ⟨x, y.on (hk i e he).1 hι hm, z.on (hk i e he).2 hι hm⟩⟩
 | iter q since seen last =>
   obtain ⟨a1, a0, a2⟩ := h
   exact ⟨hm q hk, by rw [hι q hk]; exact a0, by rw [hid, hι q hk]; exact a2⟩
end
end Go.Q
end

section
/- A region that draws its order, run in whatever order, comes to what the evaluator says. -/
namespace Go.Q
variable [Link] [Glob]
def InR (ds : List DOp) (n0 : Nat) (L : Nat → Prop) (id : Nat) : Prop :=
 ∃ j d, L j ∧ ds[j]? = some d ∧ d.lays = true ∧ d.lab n0 ≤ id ∧ id < d.lab n0 + BIG
def Bd (ds : List DOp) (n0 : Nat) (L : Nat → Prop) (id m : Nat) : Prop :=
 m = n0 ∨ ∃ j d, L j ∧ ds[j]? = some d ∧ d.pure = false ∧ m = d.top n0 ∧ (d.wr = true ∨ d.W n0 id)
def Bt (ds : List DOp) (n0 : Nat) (L : Nat → Prop) (t m : Nat) : Prop :=
 m = n0 ∨ ∃ j d, L j ∧ ds[j]? = some d ∧ d.o.dst = some t ∧ m = d.top n0
structure DAt (B : Base) (r : Option Nat) (N n0 : Nat) (ds : List DOp) (L : Nat → Prop) (s : St) (a : Act) (w : World) (X : Nat → Prop) (ι : Nat → Nat) : Prop where
 hn : s.n = n0
 hlk : s.lk = B.lk
 le : B.lk ≤ n0
 size : N ≤ a.tmps.size
 marks : Marks B.w.heap.size X w a.defers
 rnd : ∀ l, r = some l → ∃ rec, w.heap[l]? = some (.loop rec)
 ext : Ext B.w w B.X X B.ι ι B.σ s.σ B.n n0 B.lk
 own : ∀ id, s.σ id ≠ none → X (ι id)
 inj : ∀ id id', s.σ id ≠ none → s.σ id' ≠ none → ι id = ι id' → id = id'
 xlt : ∀ b, X b → b < w.heap.size
 dom : ∀ id, s.σ id ≠ none → id < n0 ∨ InR ds n0 L id
 ob : ∀ id o, s.σ id = some o → ∃ m, Bd ds n0 L id m ∧ ObRep w X ι m id o
 rep : ∀ t, ∃ m, Bt ds n0 L t m ∧ Rep w X ι m (s.env t) (a.tmps.getD t undef)
 res : ∀ id, n0 ≤ id → ¬ InR ds n0 L id → w.heap.size ≤ ι id
 inv : Glob.inv w X
section
variable {P : Program} {T : Tab} [PrimsOk P T] [PrimsSay T] {B : Base} {r : Option Nat} {N n0 tot : Nat} {ops : Array Oper} {bef : List Nat} {ds : List DOp} {L : Nat → Prop} {s : St} {a : Act} {w : World}
 {X : Nat → Prop} {ι : Nat → Nat}
theorem InR.mono {L L' : Nat → Prop} (h : ∀ j, L j → L' j) {id : Nat} (hh : InR ds n0 L id) : InR ds n0 L' id := by
 obtain ⟨j, d, h1, h2⟩ := hh; exact ⟨j, d, h j h1, h2⟩
theorem Bd.mono {L L' : Nat → Prop} (h : ∀ j, L j → L' j) {id m : Nat} (hh : Bd ds n0 L id m) : Bd ds n0 L' id m := by
 rcases hh with hh | ⟨j, d, h1, h2⟩
 ·exact .inl hh
 ·exact .inr ⟨j, d, h j h1, h2⟩
theorem Bt.mono {L L' : Nat → Prop} (h : ∀ j, L j → L' j) {t m : Nat} (hh : Bt ds n0 L t m) : Bt ds n0 L' t m := by
 rcases hh with hh | ⟨j, d, h1, h2⟩
 ·exact .inl hh
 ·exact .inr ⟨j, d, h j h1, h2⟩
theorem lab_le {d e : DOp} (h : e.rank + (if e.lays then 1 else 0) ≤ d.rank) : e.top n0 ≤ d.lab n0 := by
 unfold DOp.top DOp.lab
 cases hl : e.lays with
 | true =>
   rw [hl] at h
   simp only [if_true] at h ⊢
   have := Nat.mul_le_mul_left BIG h
   rw [Nat.mul_add, Nat.mul_one] at this
   omega
 | false =>
   rw [hl] at h
   simp only [Bool.false_eq_true, if_false, Nat.add_zero] at h ⊢
   have := Nat.mul_le_mul_left BIG h
   omega
structure Ord (ds : List DOp) (n0 : Nat) (L : Nat → Prop) (d : DOp) : Prop where
 ord : ∀ j e, L j → ds[j]? = some e → e.top n0 ≤ d.lab n0 ∨ ((∀ t, e.o.dst = some t → t ∉ d.o.reads) ∧ (e.wr = true → d.pure = true) ∧ (d.wr = true → e.pure = true) ∧
  Blind e d)
 apart : ∀ j e, L j → ds[j]? = some e → e.lays = true → d.lays = true → ∀ id, ¬ ((e.lab n0 ≤ id ∧ id < e.lab n0 + BIG) ∧ (d.lab n0 ≤ id ∧ id < d.lab n0 + BIG))
 purel : ∀ (j : Nat) (e : DOp), ds[j]? = some e → e.pure = true → e.lays = false
 lo : d.lo ≤ d.rank
theorem Sta.ord {lo : Nat} (st : Sta P N ops bef ds tot lo) {i : Nat} {d : DOp} (hd : ds[i]? = some d) (hL : ¬ L i) (hLb : ∀ j, L j → j < ds.length)
 (hcl : ∀ j k, L j → k < ds.length → befAt bef (lo + j) (lo + k) = true → L k) : Ord ds n0 L d where
 ord := fun j e hj he => by
  have hne : j ≠ i := fun h => hL (h ▸ hj)
  have hi : i < ds.length := (List.getElem?_eq_some_iff.1 hd).1
  have hw := st.hwin
  have hjl := hLb j hj
  obtain ⟨o, ho, -⟩ := st.hcomp i d hd
  cases hb : befAt bef (lo + i) (lo + j) with
  | true =>
    obtain ⟨hlt, -⟩ := st.hbef (lo + i) o (lo + j) ho (by omega) hb
    exact .inl (lab_le (st.hpair j i e d (by omega) he hd).1)
  | false =>
    have hb' : befAt bef (lo + j) (lo + i) = false := by
     cases hb' : befAt bef (lo + j) (lo + i) with
     | true => exact absurd (hcl j i hj hi hb') hL
     | false => rfl
    have mg : ∀ {x y : DOp}, mgPair x y = true → x.top n0 ≤ y.lab n0 ∧ y.top n0 ≤ x.lab n0 := fun {x y} hp => by
     obtain ⟨_, _, _, _, _, h6, h7, _, _, h10, _⟩ := mgPair_spec hp
     exact ⟨lab_le (by rw [h6, h10]; simp), lab_le (by rw [h7, h10]; simp)⟩
    by_cases hlt : j < i
    ·have := (st.hpair j i e d hlt he hd).2 (by unfold Go.Q.apart; unfold befAt at hb hb'; simp [hb, hb'])
     unfold pairOk at this
     simp only [Bool.or_eq_true] at this
     rcases this with (this | this) | this
     ·obtain ⟨p1, p2, p3, p4, p5, p6, p7⟩ := pairOk_spec this
      exact .inr ⟨p1, p4, p5, p6⟩
     ·exact .inl (mg this).1
     ·exact .inl (mg this).2
    ·have := (st.hpair i j d e (by omega) hd he).2 (by unfold Go.Q.apart; unfold befAt at hb hb'; simp [hb, hb'])
     unfold pairOk at this
     simp only [Bool.or_eq_true] at this
     rcases this with (this | this) | this
     ·obtain ⟨p1, p2, p3, p4, p5, p6, p7⟩ := pairOk_spec this
      exact .inr ⟨p2, p5, p4, p7⟩
     ·exact .inl (mg this).2
     ·exact .inl (mg this).1
 apart := fun j e hj he hel hdl id hh => by
  have hne : j ≠ i := fun h => hL (h ▸ hj)
  by_cases hlt : j < i
  ·have := lab_le (n0 := n0) (st.hpair j i e d hlt he hd).1
   simp only [DOp.top, hel, if_true] at this
   omega
  ·have := lab_le (n0 := n0) (st.hpair i j d e (by omega) hd he).1
   simp only [DOp.top, hdl, if_true] at this
   omega
 purel := st.hpure
 lo := st.hlo i d hd
theorem hideR_sub {σ : Sto} : ∀ (l : List Nat) (id : Nat) (o : Ob), hideR σ n0 l id = some o → σ id = some o ∧ ∀ q ∈ l, ¬ (n0 + BIG * q ≤ id ∧ id < n0 + BIG * q + BIG)
 | [], id, o, h => ⟨h, by simp⟩
 | q :: l, id, o, h => by
   simp only [hideR] at h
   split at h
   ·cases h
   ·rename_i hn
    obtain ⟨h1, h2⟩ := hideR_sub l id o h
    exact ⟨h1, fun q' hq' => by
     rcases List.mem_cons.1 hq' with rfl | hq'
     ·exact hn
     ·exact h2 q' hq'⟩
theorem view_sub {d : DOp} {σ : Sto} {id : Nat} {o : Ob} (h : d.view n0 σ id = some o) : d.pure = false ∧ σ id = some o ∧ (d.wr = false → d.hid ≠ [] → id < d.lab n0 ∧ ∀ q ∈ d.hid, ¬ (n0 + BIG * q ≤ id ∧ id < n0 + BIG * q + BIG)) := by
 unfold DOp.view at h
 cases hp : d.pure with
 | true => simp [hp, Sto.empty] at h
 | false =>
   simp only [hp, Bool.false_eq_true, if_false] at h
   refine ⟨rfl, ?_⟩
   cases hw : d.wr with
   | true => simp only [hw, if_true] at h; exact ⟨h, fun hh => by cases hh⟩
   | false =>
     simp only [hw, Bool.false_eq_true, if_false] at h
     cases hh : d.hid with
     | nil => rw [hh] at h; exact ⟨h, fun _ hne => absurd rfl hne⟩
     | cons q l =>
       rw [hh] at h
       simp only [hide] at h
       split at h
       ·rename_i hlt
        obtain ⟨h1, h2⟩ := hideR_sub _ _ _ h
        exact ⟨h1, fun _ _ => ⟨hlt, h2⟩⟩
       ·cases h
theorem view_wf (h : DAt B r N n0 ds L s a w X ι) {d : DOp} (od : Ord ds n0 L d) : WF w X ι (d.view n0 s.σ) (d.lab n0) := by
 have hn0 : n0 ≤ d.lab n0 := by unfold DOp.lab; omega
 have key : ∀ id o, d.view n0 s.σ id = some o → id < d.lab n0 ∧ ∃ m, m ≤ d.lab n0 ∧ ObRep w X ι m id o := by
  intro id o hv
  obtain ⟨hp, hs, hh⟩ := view_sub hv
  have nohid : d.wr = false → ¬ inHid n0 d.hid id := fun hw ⟨q, hq, hr⟩ => by
   have hne : d.hid ≠ [] := fun e0 => by rw [e0] at hq; simp at hq
   exact (hh hw hne).2 q hq hr
  have nosee : ∀ j e, L j → ds[j]? = some e → e.pure = false → (e.wr = true ∨ e.W n0 id ∨ (e.lays = true ∧ e.lab n0 ≤ id ∧ id < e.lab n0 + BIG)) → e.top n0 ≤ d.lab n0 := by
   intro j e hj he hep hor
   rcases od.ord j e hj he with h1 | ⟨-, h2, h3, h4⟩
   ·exact h1
   ·exfalso
    rcases hor with hw | hW | ⟨hl, hr1, hr2⟩
    ·rw [h2 hw] at hp; cases hp
    ·cases hw : d.wr with
     | true => rw [h3 hw] at hep; cases hep
     | false =>
       have hdc := calm_of hp hw
       exact nohid hw (W_hid (h4.1 hdc) (h4.2 hW.1 hdc) hW)
    ·cases hw : d.wr with
     | true => rw [h3 hw] at hep; cases hep
     | false => exact nohid hw ⟨_, h4.1 (calm_of hp hw) hl, hr1, hr2⟩
  constructor
  ·rcases h.dom id (by rw [hs]; simp) with h1 | ⟨j, e, hj, he, hl, hr1, hr2⟩
   ·omega
   ·have := nosee j e hj he (by
     cases hep : e.pure with
     | false => rfl
     | true => rw [od.purel j e he hep] at hl; cases hl) (.inr (.inr ⟨hl, hr1, hr2⟩))
    simp only [DOp.top, hl, if_true] at this
    omega
  ·obtain ⟨m, hb, ho⟩ := h.ob id o hs
   refine ⟨m, ?_, ho⟩
   rcases hb with rfl | ⟨j, e, hj, he, hep, rfl, hor⟩
   ·exact hn0
   ·exact nosee j e hj he hep (hor.imp_right .inl)
 have hne : ∀ id, d.view n0 s.σ id ≠ none → s.σ id ≠ none := fun id hv => by
  obtain ⟨o, ho⟩ := Option.ne_none_iff_exists'.1 hv
  rw [(view_sub ho).2.1]; simp
 refine WF.of_ob (fun id o hv => ?_) (fun id hv => h.own id (hne id hv)) (fun id id' h1 h2 => h.inj id id' (hne id h1) (hne id' h2)) (fun id hv => ?_) h.xlt
 ·obtain ⟨_, m, hm, ho⟩ := key id o hv
  exact ho.move' (Nat.le_refl _) (fun _ _ _ => rfl) (fun _ c _ _ h => ⟨c, h, rfl⟩) (fun _ _ _ => rfl) (fun _ _ h => h) hm rfl
 ·obtain ⟨o, ho⟩ := Option.ne_none_iff_exists'.1 hv
  exact (key id o ho).1
theorem read_rep (h : DAt B r N n0 ds L s a w X ι) {d : DOp} (od : Ord ds n0 L d) {t : Nat} (ht : t ∈ d.o.reads) : Rep w X ι (d.lab n0) (s.env t) (a.tmps.getD t undef) := by
 obtain ⟨m, hb, hr⟩ := h.rep t
 have hm : m ≤ d.lab n0 := by
  rcases hb with rfl | ⟨j, e, hj, he, hdst, rfl⟩
  ·unfold DOp.lab; omega
  ·rcases od.ord j e hj he with h1 | ⟨h1, -⟩
   ·exact h1
   ·exact absurd ht (h1 t hdst)
 exact hr.move (Nat.le_refl _) (fun _ _ _ => rfl) (fun _ c _ _ h => ⟨c, h, rfl⟩) (fun _ _ => rfl) (fun _ _ h => h) hm
def seenV (d : DOp) (s : St) : Opd → V
 | .tmp t => if t ∈ d.o.reads then s.env t else .undef
 | .con v => v
def seen (d : DOp) (a : Act) : Operand → Value
 | .tmp t => if t ∈ d.o.reads then a.tmps.getD t undef else undef
 | x => a.eval x
theorem seen_rep (h : DAt B r N n0 ds L s a w X ι) {d : DOp} (od : Ord ds n0 L d) {x : Operand} {x' : Opd} (hc : cOpd x = some x') : Rep w X ι (d.lab n0) (seenV d s x') (seen d a x) := by
 unfold cOpd at hc
 split at hc
 ·simp only [Option.some.injEq] at hc; subst hc
  simp only [seenV, seen]
  split
  ·rename_i ht; exact read_rep h od ht
  ·exact .undef
 ·simp only [Option.map_eq_some_iff] at hc
  obtain ⟨v, hv, rfl⟩ := hc
  exact ofValA_rep hv
 ·simp only [Option.some.injEq] at hc; subst hc
  exact .fn _ [] #[] rfl (fun i e u he => by simp at he)
 ·cases hc
theorem plain_ok {v : V} (h : v.plain = true) : Ok (fun _ => False) v := by
 have one : ∀ v : V, v.plain1 = true → Ok (fun _ => False) v := by
  intro v h
  unfold V.plain1 at h
  split at h <;> first | (constructor; done) | skip
  ·exact .fn _ [] (fun i e he => by simp at he)
  ·cases h
 unfold V.plain at h
 split at h
 ·exact .agg _ (fun i e he => one e (List.all_eq_true.1 h e (List.mem_of_getElem? he)))
 ·exact one _ h
theorem seen_ok (h : DAt B r N n0 ds L s a w X ι) {d : DOp} (od : Ord ds n0 L d) (hcon : ∀ v, Opd.con v ∈ d.o.op.opds → v.plain = true) :
 ∀ x ∈ d.o.op.opds, Ok (fun id => id < d.lab n0 ∧ ι id < w.heap.size) (seenV d s x) := by
 intro x hx
 cases x with
 | con v => exact (plain_ok (hcon v hx)).none
 | tmp t =>
   simp only [seenV]
   split
   ·rename_i ht; exact rep_ok (read_rep h od ht)
   ·exact .undef
theorem draw_next (h : DAt B r N n0 ds L s a w X ι) {i : Nat} {d : DOp} (hd : ds[i]? = some d) (od : Ord ds n0 L d) (hcon : ∀ v, Opd.con v ∈ d.o.op.opds → v.plain = true)
 (hdst : fits N d.o.dst = true) {v : V} {u : Value} {σo : Sto} {n' : Nat} {w' : World} {X' : Nat → Prop} {ι' : Nat → Nat} (hrep : Rep w' X' ι' n' v u) (hwf : WF w' X' ι' σo n')
 (hext : Ext w w' X X' ι ι' (d.view n0 s.σ) σo (d.lab n0) n' (d.lok n0 s.lk)) (hsay : Says (seenV d s) (d.view n0 s.σ) (d.lab n0) d.o.op v σo n') (htop : n' ≤ d.top n0) :
 ∃ ι'', DAt B r N n0 ds (fun j => L j ∨ j = i) (({ s with σ := d.fin n0 s.σ σo } : St).put d.o.dst v) (a.put d.o.dst u) w' X' ι'' := by
 have hvw := view_wf h od
 have hn0 : n0 ≤ d.lab n0 := by unfold DOp.lab; omega
 have hnn : d.lab n0 ≤ n' := hext.hn
 obtain ⟨hokv, hoks, hdom⟩ := hsay (fun id => id < d.lab n0 ∧ ι id < w.heap.size) (seen_ok h od hcon) (wf_ok hvw)
 have hne : ∀ id, d.view n0 s.σ id ≠ none → s.σ id ≠ none := fun id hv => by
  obtain ⟨o, ho⟩ := Option.ne_none_iff_exists'.1 hv
  rw [(view_sub ho).2.1]; simp
 have hlaidlt : ∀ id, s.σ id ≠ none → ι id < w.heap.size := fun id hs => h.xlt _ (h.own id hs)
 have hlok : B.lk ≤ d.lok n0 s.lk := by
  unfold DOp.lok
  split
  ·rw [h.hlk]; exact Nat.le_refl _
  ·have := h.le; omega
 have hownsub : ∀ b, Own (d.view n0 s.σ) ι (d.lok n0 s.lk) b → Own s.σ ι B.lk b := fun b ⟨id, h1, h2, h3⟩ => ⟨id, Nat.le_trans hlok h1, hne id h2, h3⟩
 have hownX : ∀ {lk b}, Own s.σ ι lk b → X b := fun ⟨id, _, h2, h3⟩ => h3 ▸ h.own id h2
 have hheap : ∀ b, b < w.heap.size → ¬ X b → w'.heap[b]? = w.heap[b]? := fun b hb hx => hext.heap b hb (fun ho => hx (hownX (hownsub b ho)))
 have hrange : ∀ id, d.lab n0 ≤ id → id < n' → d.lays = true ∧ id < d.lab n0 + BIG := fun id h1 h2 => by
  unfold DOp.top at htop
  cases hl : d.lays with
  | true => simp only [hl, if_true] at htop; exact ⟨rfl, by omega⟩
  | false => simp only [hl, Bool.false_eq_true, if_false] at htop; omega
 have hnotin : ∀ id, d.lab n0 ≤ id → id < n' → w.heap.size ≤ ι id := fun id h1 h2 => by
  obtain ⟨hl, h3⟩ := hrange id h1 h2
  refine h.res id (by omega) (fun ⟨j, e, hj, he, hel, hr1, hr2⟩ => ?_)
  exact od.apart j e hj he hel hl id ⟨⟨hr1, hr2⟩, h1, h3⟩
 let ι2 : Nat → Nat := fun id => if id < n0 then ι id else if d.lab n0 ≤ id ∧ id < n' then ι' id else if ι id < w.heap.size then ι id else w'.heap.size
 have hlaid : ∀ id, ι id < w.heap.size → ι2 id = ι id := fun id hl => by
  simp only [ι2]
  split
  ·rfl
  ·split
   ·rename_i h2
    have := hnotin id h2.1 h2.2
    omega
   ·simp only [hl, if_true]
 have hagree : ∀ id, More (fun id => id < d.lab n0 ∧ ι id < w.heap.size) (d.lab n0) n' id → ι2 id = ι' id := fun id hm => by
  rcases hm with ⟨h1, h2⟩ | ⟨h1, h2⟩
  ·rw [hlaid id h2, hext.hι id h1]
  ·simp only [ι2]
   rw [if_neg (by omega), if_pos ⟨h1, h2⟩]
 have hmlt : ∀ id, More (fun id => id < d.lab n0 ∧ ι id < w.heap.size) (d.lab n0) n' id → id < d.top n0 := fun id hm => by
  rcases hm with ⟨h1, h2⟩ | ⟨h1, h2⟩ <;> omega
 have hmv : ∀ {m : Nat} {v : V} {u : Value}, Rep w X ι m v u → Rep w' X' ι2 m v u := fun hh =>
  hh.move' hext.size hheap hext.cells (fun id _ hl => hlaid id hl) hext.xnew (Nat.le_refl _)
 have hmvOb : ∀ {m id : Nat} {o : Ob}, w'.heap[ι2 id]? = w.heap[ι id]? → ObRep w X ι m id o → ObRep w' X' ι2 m id o := fun hb hh =>
  hh.move' hext.size hheap hext.cells (fun id _ hl => hlaid id hl) hext.xnew (Nat.le_refl _) hb
 have hnewid : ∀ id, σo id ≠ none → ι2 id = ι' id := fun id hs => by
  rcases hdom id hs with h1 | h1
  ·exact hagree id (.inl ⟨hvw.dom id h1, hlaidlt id (hne id h1)⟩)
  ·exact hagree id (.inr h1)
 have hnewob : ∀ id o, σo id = some o → ObRep w' X' ι2 (d.top n0) id o := fun id o hs =>
  (hwf.ob hs).on (hoks.ob hs) hagree hmlt (hnewid id (by rw [hs]; simp))
 let Wd : Nat → Prop := fun id => (d.wr = true ∧ d.pure = false) ∨ d.W n0 id
 have hcase : ∀ id, (¬ Wd id ∧ d.fin n0 s.σ σo id = s.σ id) ∨ (Wd id ∧ d.pure = false ∧ d.fin n0 s.σ σo id = σo id) := by
  intro id
  cases hp : d.pure with
  | true =>
    left
    refine ⟨fun hh => ?_, by simp [DOp.fin, hp]⟩
    rcases hh with ⟨_, h2⟩ | h2
    ·rw [hp] at h2; cases h2
    ·have := h2.1; simp [DOp.calm, hp] at this
  | false =>
    cases hw : d.wr with
    | true => right; exact ⟨.inl ⟨hw, hp⟩, rfl, by simp [DOp.fin, hp, hw]⟩
    | false =>
      rcases fin_calm (calm_of hp hw) n0 s.σ σo id with ⟨h1, h2⟩ | ⟨h1, h2⟩
      ·right; exact ⟨.inr h1, rfl, h2⟩
      ·left
       refine ⟨fun hh => ?_, h2⟩
       rcases hh with ⟨h3, _⟩ | h3
       ·rw [hw] at h3; cases h3
       ·exact h1 h3
 have hcalm : ∀ id, ¬ Wd id → s.σ id ≠ none → ¬ Own (d.view n0 s.σ) ι (d.lok n0 s.lk) (ι id) := by
  rintro id hW hs ⟨id', h1, h2, h3⟩
  have hid : id' = id := h.inj id' id (hne id' h2) hs h3
  subst hid
  obtain ⟨o, ho⟩ := Option.ne_none_iff_exists'.1 h2
  obtain ⟨hp, _, hh⟩ := view_sub ho
  have hlt := hvw.dom id' h2
  cases hw : d.wr with
  | true => exact hW (.inl ⟨hw, hp⟩)
  | false =>
    have hc := calm_of hp hw
    refine hW (.inr ⟨hc, ?_⟩)
    have hlo : n0 + BIG * d.lo ≤ id' := by simpa [DOp.lok, hw] using h1
    cases hlow : d.low with
    | none =>
      have : d.lo = d.rank := by simp [DOp.lo, hlow]
      rw [this] at hlo
      unfold DOp.lab at hlt
      omega
    | some lo =>
      have : d.lo = lo := by simp [DOp.lo, hlow]
      rw [this] at hlo
      refine ⟨hlo, by unfold DOp.top; omega, fun ⟨q, hq, hr⟩ => ?_⟩
      have hne' : d.hid ≠ [] := fun e0 => by rw [e0] at hq; simp at hq
      exact (hh hw hne').2 q hq hr
 have hwlok : ∀ id, Wd id → B.lk ≤ id → d.lok n0 s.lk ≤ id := by
  intro id hW hlk
  unfold DOp.lok
  rcases hW with ⟨h1, h2⟩ | hW
  ·simp only [h1, h2, Bool.not_false, Bool.and_self, if_true, h.hlk]; exact hlk
  ·have hc : d.pure = false ∧ d.wr = false := by simpa [DOp.calm] using hW.1
   simp only [hc.1, hc.2, Bool.false_and, Bool.false_eq_true, if_false]
   obtain ⟨-, hW⟩ := hW
   cases hlow : d.low with
   | none => rw [hlow] at hW; simp only [DOp.lo, hlow, Option.getD_none]; exact hW.2.1
   | some lo => rw [hlow] at hW; simp only [DOp.lo, hlow, Option.getD_some]; exact hW.1
 have hwn0 : ∀ id, d.W n0 id → n0 ≤ id := by
  rintro id ⟨-, hW⟩
  cases hlow : d.low with
  | none => rw [hlow] at hW; have := hW.2.1; omega
  | some lo => rw [hlow] at hW; have := hW.1; omega
 have hσ : (({ s with σ := d.fin n0 s.σ σo } : St).put d.o.dst v).σ = d.fin n0 s.σ σo := put_sig
 have hlk' : (({ s with σ := d.fin n0 s.σ σo } : St).put d.o.dst v).lk = s.lk := put_lk
 have hn' : (({ s with σ := d.fin n0 s.σ σo } : St).put d.o.dst v).n = s.n := put_n
 have hL' : ∀ j, L j → (L j ∨ j = i) := fun j hj => .inl hj
 have hext' : Ext w w' X X' ι ι2 s.σ (d.fin n0 s.σ σo) n0 n0 B.lk := {
  hn := Nat.le_refl _, os := hext.os, tape := hext.tape, output := hext.output, size := hext.size
  heap := fun b hb ho => hext.heap b hb (fun ho' => ho (hownsub b ho'))
  cells := hext.cells
  loops := hext.loops
  hι := fun id hid => by simp only [ι2]; rw [if_pos hid]
  xnew := hext.xnew
  xold := fun b hx ho => hext.xold b hx (fun ho' => ho (hownsub b ho'))
  xlt := hext.xlt
  own := fun id hlk hs hlt => by
   rcases hcase id with ⟨-, e⟩ | ⟨hW, -, e⟩
   ·rw [e] at hs
    exact ⟨id, hlk, hs, (hlaid id (hlaidlt id hs)).symm⟩
   ·rw [e] at hs
    rw [hnewid id hs] at hlt ⊢
    exact hownsub _ (hext.own id (hwlok id hW hlk) hs hlt)
  lock := fun id hlk => by
   rcases hcase id with ⟨-, e⟩ | ⟨hW, h2, e⟩
   ·exact e
   ·rcases hW with ⟨h1, -⟩ | hW
    ·rw [e]
     have hlo : d.lok n0 s.lk = B.lk := by simp [DOp.lok, h1, h2, h.hlk]
     have := hext.lock id (by rw [hlo]; exact hlk)
     rw [this]
     simp [DOp.view, h1, h2]
    ·have := hwn0 id hW
     have := h.le
     omega }
 refine ⟨ι2, ?_⟩
 have hmk : Marks B.w.heap.size X' w' a.defers := by
  obtain ⟨rs, m1, m2, m3⟩ := h.marks
  refine ⟨rs, m1, m2, fun q hq => ?_⟩
  obtain ⟨c1, c2, c3⟩ := m3 q hq
  have hlt := (Array.getElem?_eq_some_iff.1 c2).1
  exact ⟨c1, by rw [hheap q hlt c3]; exact c2, fun hx => c3 (hext.xnew q hlt hx)⟩
 exact {
  hn := by rw [hn']; exact h.hn
  hlk := by rw [hlk']; exact h.hlk
  le := h.le
  size := by cases hdd : d.o.dst <;> simpa [Act.put] using h.size
  marks := by cases hdd : d.o.dst <;> simpa [Act.put] using hmk
  rnd := fun l hl => by obtain ⟨rec, hrec⟩ := h.rnd l hl; exact hext.loops _ _ hrec
  ext := by rw [hσ]; exact h.ext.trans hext'
  own := fun id hs => by
   rw [hσ] at hs
   rcases hcase id with ⟨hc, e⟩ | ⟨-, -, e⟩
   ·rw [e] at hs
    rw [hlaid id (hlaidlt id hs)]
    exact hext.xold _ (h.own id hs) (hcalm id hc hs)
   ·rw [e] at hs; rw [hnewid id hs]; exact hwf.own id hs
  inj := fun id id' hs hs' he => by
   rw [hσ] at hs hs'
   have mixed : ∀ q q', s.σ q ≠ none → ¬ Wd q → σo q' ≠ none → Wd q' → ι2 q ≠ ι2 q' := by
    intro q q' h1 hc h2 hc' e
    rw [hlaid q (hlaidlt q h1), hnewid q' h2] at e
    have hlt := hlaidlt q h1
    rw [e] at hlt
    by_cases hlk : B.lk ≤ q'
    ·have := hext.own q' (hwlok q' hc' hlk) h2 hlt
     rw [← e] at this
     exact hcalm q hc h1 this
    ·rcases hc' with ⟨g1, g2⟩ | hW
     ·exact hc (.inl ⟨g1, g2⟩)
     ·have := hwn0 q' hW
      have := h.le
      omega
   rcases hcase id with ⟨hc, e⟩ | ⟨hc, -, e⟩ <;> rcases hcase id' with ⟨hc', e'⟩ | ⟨hc', -, e'⟩ <;> rw [e] at hs <;> rw [e'] at hs'
   ·rw [hlaid id (hlaidlt id hs), hlaid id' (hlaidlt id' hs')] at he; exact h.inj id id' hs hs' he
   ·exact absurd he (mixed id id' hs hc hs' hc')
   ·exact absurd he.symm (mixed id' id hs' hc' hs hc)
   ·rw [hnewid id hs, hnewid id' hs'] at he; exact hwf.inj id id' hs hs' he
  xlt := hwf.xlt
  inv := hext.inv (view_wf h od) h.inv
  dom := fun id hs => by
   rw [hσ] at hs
   have new : ∀ q, d.lab n0 ≤ q → q < n' → InR ds n0 (fun j => L j ∨ j = i) q := fun q h1 h2 => by
    obtain ⟨hl, h3⟩ := hrange q h1 h2
    exact ⟨i, d, .inr rfl, hd, hl, h1, h3⟩
   rcases hcase id with ⟨hc, e⟩ | ⟨-, -, e⟩
   ·rw [e] at hs; exact (h.dom id hs).imp_right (InR.mono hL')
   ·rw [e] at hs
    rcases hdom id hs with h1 | h1
    ·exact (h.dom id (hne id h1)).imp_right (InR.mono hL')
    ·exact .inr (new id h1.1 h1.2)
  ob := fun id o hs => by
   rw [hσ] at hs
   rcases hcase id with ⟨hc, e⟩ | ⟨hW, hp, e⟩
   ·rw [e] at hs
    obtain ⟨m, hb, ho⟩ := h.ob id o hs
    refine ⟨m, hb.mono hL', hmvOb ?_ ho⟩
    have hs' : s.σ id ≠ none := by rw [hs]; simp
    have hlt := hlaidlt id hs'
    rw [hlaid id hlt]
    exact hext.heap _ hlt (hcalm id hc hs')
   ·rw [e] at hs
    refine ⟨d.top n0, .inr ⟨i, d, .inr rfl, hd, hp, rfl, ?_⟩, hnewob id o hs⟩
    rcases hW with ⟨hw, -⟩ | hW
    ·exact .inl hw
    ·exact .inr hW
  rep := fun t => by
   have old : ∃ m, Bt ds n0 (fun j => L j ∨ j = i) t m ∧ Rep w' X' ι2 m (s.env t) (a.tmps.getD t undef) := by
    obtain ⟨m, hb, hr⟩ := h.rep t
    exact ⟨m, hb.mono hL', hmv hr⟩
   cases hdd : d.o.dst with
   | none => simpa [St.put, Act.put] using old
   | some q =>
     rw [hdd] at hdst
     have hq : q < a.tmps.size := Nat.lt_of_lt_of_le (by simpa [fits] using hdst) h.size
     by_cases e : t = q
     ·subst e
      refine ⟨d.top n0, .inr ⟨i, d, .inr rfl, hd, hdd, rfl⟩, ?_⟩
      simp only [St.put, Act.put, if_true, Array.getD_eq_getD_getElem?, Array.getElem?_setIfInBounds_self_of_lt hq, Option.getD_some]
      exact hrep.on hokv hagree hmlt
     ·obtain ⟨m, h1, h2⟩ := old
      refine ⟨m, h1, ?_⟩
      simp only [St.put, Act.put, e, if_false, Array.getD_eq_getD_getElem?, Array.getElem?_setIfInBounds_ne (Ne.symm e)]
      simpa [Array.getD_eq_getD_getElem?] using h2
  res := fun id hid hnot => by
   have hold : ¬ InR ds n0 L id := fun hh => hnot (hh.mono hL')
   have hun := h.res id hid hold
   simp only [ι2]
   rw [if_neg (by omega)]
   split
   ·rename_i h2
    obtain ⟨hl, h3⟩ := hrange id h2.1 h2.2
    exact absurd ⟨i, d, .inr rfl, hd, hl, h2.1, h3⟩ hnot
   ·rw [if_neg (by omega)]; exact Nat.le_refl _ }
end
end Go.Q
end

section
/- A region that draws its order, as a whole. -/
namespace Go.Q
variable [Link] [Glob]
section
variable {P : Program} {T : Tab} [PrimsOk P T] [PrimsSay T] {B : Base} {r : Option Nat} {N n0 tot : Nat} {ops : Array Oper} {bef : List Nat} {ds : List DOp} {L : Nat → Prop} {s : St} {a : Act} {w : World}
 {X : Nat → Prop} {ι : Nat → Nat}
theorem draw_skip (h : DAt B r N n0 ds L s a w X ι) {i : Nat} {dst : Option Nat} (hdst : fits N dst = true) :
 DAt B r N n0 ds (fun j => L j ∨ j = i) (s.put dst .undef) (a.put dst undef) w X ι := by
 have hL' : ∀ j, L j → (L j ∨ j = i) := fun j hj => .inl hj
 have hσ : (s.put dst .undef).σ = s.σ := by cases dst <;> rfl
 have hlk' : (s.put dst .undef).lk = s.lk := put_lk
 have hn' : (s.put dst .undef).n = s.n := put_n
 exact {
  hn := by rw [hn']; exact h.hn
  hlk := by rw [hlk']; exact h.hlk
  le := h.le
  size := by cases dst <;> simpa [Act.put] using h.size
  marks := by cases dst <;> simpa [Act.put] using h.marks
  rnd := h.rnd
  ext := by rw [hσ]; exact h.ext
  own := by rw [hσ]; exact h.own
  inj := by rw [hσ]; exact h.inj
  xlt := h.xlt
  dom := fun id hs => by rw [hσ] at hs; exact (h.dom id hs).imp_right (InR.mono hL')
  ob := fun id o hs => by
   rw [hσ] at hs
   obtain ⟨m, hb, ho⟩ := h.ob id o hs
   exact ⟨m, hb.mono hL', ho⟩
  rep := fun t => by
   have old : ∃ m, Bt ds n0 (fun j => L j ∨ j = i) t m ∧ Rep w X ι m (s.env t) (a.tmps.getD t undef) := by
    obtain ⟨m, hb, hr⟩ := h.rep t
    exact ⟨m, hb.mono hL', hr⟩
   cases dst with
   | none => simpa [St.put, Act.put] using old
   | some q =>
     have hq : q < a.tmps.size := Nat.lt_of_lt_of_le (by simpa [fits] using hdst) h.size
     by_cases e : t = q
     ·subst e
      refine ⟨n0, .inl rfl, ?_⟩
      simp only [St.put, Act.put, if_true, Array.getD_eq_getD_getElem?, Array.getElem?_setIfInBounds_self_of_lt hq, Option.getD_some]
      exact .undef
     ·obtain ⟨m, h1, h2⟩ := old
      refine ⟨m, h1, ?_⟩
      simp only [St.put, Act.put, e, if_false, Array.getD_eq_getD_getElem?, Array.getElem?_setIfInBounds_ne (Ne.symm e)]
      simpa [Array.getD_eq_getD_getElem?] using h2
  res := fun id hid hnot => h.res id hid (fun hh => hnot (hh.mono hL'))
  inv := h.inv }
theorem no_select {o : Oper} {ai : AI} (hc : cOp P o = some ai) : (∀ cs b, o.op ≠ .select cs b) ∧ ∀ c, o.op ≠ .defer c := by
 obtain ⟨dst, op, ty, pos, after, guard⟩ := o
 constructor
 ·intro cs b e
  simp only at e; subst e
  simp [cOp] at hc
 ·intro c e
  simp only at e; subst e
  simp [cOp] at hc
theorem draw_step {lo : Nat} (st : Sta P N ops bef ds tot lo) (h : DAt B r N n0 ds L s a w X ι) {i : Nat} {d : DOp} (hd : ds[i]? = some d) (hL : ¬ L i) (hLb : ∀ j, L j → j < ds.length)
 (hcl : ∀ j k, L j → k < ds.length → befAt bef (lo + j) (lo + k) = true → L k) {K : St → Prop} (hs : stepD T (sndC P T) n0 d s K) {Qm : Exit → Act → World → Prop} {Km : Act → World → Prop}
 (hK : ∀ s' a' w' X' ι', DAt B r N n0 ds (fun j => L j ∨ j = i) s' a' w' X' ι' → K s' → Km a' w') : wpOpIn (Fw r) 0 P ops Qm (lo + i) Km a w := by
 obtain ⟨o, ho, hao, hrd⟩ := st.hcomp i d hd
 obtain ⟨h1, h2, h3⟩ := cOper_spec hao
 have hwant := wants_iff' (fun t => by obtain ⟨m, _, hr⟩ := h.rep t; exact ⟨m, hr⟩) hao
 unfold wpOpIn
 simp only [ho]
 unfold stepD at hs
 split at hs <;> rename_i hw
 ·rw [hwant] at hw
  rw [if_pos hw]
  have od := st.ord (n0 := n0) hd hL hLb hcl
  rw [opD_eq] at hs
  have hs' : opW T (sndC P T) false (seenV d s) (d.view n0 s.σ) (d.lab n0) (d.lok n0 s.lk) d.o.op
   (fun v σo n' => n' ≤ d.top n0 ∧ K (({ s with σ := d.fin n0 s.σ σo } : St).put d.o.dst v)) := by
   refine opW_congr (fun x hx => ?_) hs
   cases x with
   | con v => rfl
   | tmp t =>
     have ht : t ∈ d.o.reads := by
      simp only [AOp.reads, List.mem_append]
      exact .inl (List.mem_filterMap.2 ⟨.tmp t, hx, rfl⟩)
     simp [seenV, St.val, ht]
  have hvw := view_wf h od
  have hlok : d.lok n0 s.lk ≤ d.lab n0 := by
   unfold DOp.lok
   split
   ·rw [h.hlk]; have := h.le; unfold DOp.lab; omega
   ·have := Nat.mul_le_mul_left BIG od.lo; unfold DOp.lab; omega
  have hsay := opW_says hvw h.inv (fun x x' hx => seen_rep h od hx) h1 hs'
  obtain ⟨hsel, hdef⟩ := no_select h1
  have hxx : execOp a.eval o = execOp (seen d a) o := by
   refine execOp_congr o hsel (fun x hx => ?_)
   cases x with
   | tmp t =>
     have ht := hrd t (by simpa using hx)
     simp [seen, ht, Act.eval]
   | const v => rfl
   | global g => rfl
   | func f => rfl
  have hto := opW_sound' (r := r) (a := a) hvw h.inv hlok (fun x x' hx => seen_rep h od hx) (fun _ => rfl) (fun _ => rfl) (fun _ => rfl) hxx h1 hsay
  refine hto Km Qm (fun u w' hres => ?_)
  obtain ⟨v, σo, n', X', ι', ⟨⟨htop, hk⟩, hsy⟩, hrep, hwf, hext⟩ := hres
  obtain ⟨ι2, hnext⟩ := draw_next h hd od (st.hcon i d hd) (by rw [h2]; exact h3) hrep hwf hext hsy htop
  rw [← h2]
  exact hK _ _ _ _ _ hnext hk
 ·rw [hwant] at hw
  rw [if_neg hw]
  refine ⟨fun _ _ => trivial, ?_⟩
  rw [← h2]
  exact hK _ _ _ _ _ (draw_skip h (by rw [h2]; exact h3)) hs
structure RestOf (ds : List DOp) (lo : Nat) (listed : Array Bool) (rest : List (Nat × DOp)) : Prop where
 sorted : rest.Pairwise (fun p q => p.1 < q.1)
 mem : ∀ j d, (j, d) ∈ rest ↔ ds[j]? = some d ∧ listed[lo + j]? = some false
def upTo (n h : Nat) : Array Bool := ((List.range n).map fun i => decide (i < h)).toArray
theorem upTo_size {n h : Nat} : (upTo n h).size = n := by simp [upTo]
theorem upTo_get {n h i : Nat} (hi : i < n) : (upTo n h)[i]? = some (decide (i < h)) := by simp [upTo, hi]
theorem upTo_eq {n h : Nat} {l : Array Bool} (hs : l.size = n) (hl : ∀ i, i < n → l[i]? = some (decide (i < h))) : l = upTo n h := by
 apply Array.ext_getElem?
 intro i
 by_cases hi : i < n
 ·rw [hl i hi, upTo_get hi]
 ·rw [Array.getElem?_eq_none (by omega), Array.getElem?_eq_none (by rw [upTo_size]; omega)]
theorem bar_spec {n h : Nat} (hb : bar bef n h = true) {i j : Nat} (hi : i < h) (hj : h ≤ j) (hjn : j < n) : befAt bef j i = true := by
 simp only [bar, List.all_eq_true, List.mem_range, Bool.or_eq_true, decide_eq_true_eq] at hb
 rcases hb j hjn with h1 | h1
 ·omega
 ·exact h1 i hi
theorem ready_spec {os : List AOp} (hr : RegSt P N ops bef os) {listed : Array Bool} (hsz : listed.size = ops.size) {i : Nat} (hi : i ∈ Region.ready .any ops listed) :
 ∃ o, i < ops.size ∧ ops[i]? = some o ∧ listed[i]? = some false ∧ ∀ e ∈ o.after.toList, Region.binds .any e = true → listed[e.on]? = some true := by
 simp only [Region.ready, List.mem_filter, List.mem_range, Bool.and_eq_true, Bool.not_eq_true', Array.getD_eq_getD_getElem?] at hi
 obtain ⟨hlt, hl, hall⟩ := hi
 have hil : i < listed.size := by omega
 have hoi : ops[i]? = some ops[i] := Array.getElem?_eq_getElem hlt
 refine ⟨ops[i], hlt, hoi, ?_, fun e he hb => ?_⟩
 ·rw [Array.getElem?_eq_getElem hil] at hl ⊢
  simpa using hl
 ·rw [hoi] at hall
  simp only [Option.map_some, Option.getD_some, Array.all_eq_true'] at hall
  have := hall e (by simpa using he)
  simp only [hb, Bool.not_true, Bool.false_or] at this
  cases hx : listed[e.on]? with
  | none => rw [hx] at this; simp at this
  | some b => rw [hx] at this; simp at this; rw [this]
theorem ready_first {os : List AOp} (hr : RegSt P N ops bef os) {listed : Array Bool} (hsz : listed.size = ops.size) {i : Nat} (hi : i < ops.size) (hf : listed[i]? = some false)
 (hall : ∀ j, j < i → listed[j]? = some true) : i ∈ Region.ready .any ops listed := by
 have hoi : ops[i]? = some ops[i] := Array.getElem?_eq_getElem hi
 simp only [Region.ready, List.mem_filter, List.mem_range, Bool.and_eq_true, Bool.not_eq_true', Array.getD_eq_getD_getElem?, hf, Option.getD_some, hoi, Option.map_some, true_and]
 refine ⟨hi, ?_⟩
 rw [Array.all_eq_true']
 intro e he
 cases hb : Region.binds .any e with
 | false => rfl
 | true =>
   have hlt := hr.hedge i _ hoi e (by simpa using he) hb
   simp only [Bool.not_true, Bool.false_or]
   rw [hall e.on hlt]; rfl
theorem ready_pred {os : List AOp} (hr : RegSt P N ops bef os) {listed : Array Bool} (hsz : listed.size = ops.size)
 (hcl : ∀ j k, listed[j]? = some true → k < ops.size → befAt bef j k = true → listed[k]? = some true) {i : Nat} (hi : i ∈ Region.ready .any ops listed) {k : Nat} (hk : k < ops.size)
 (hb : befAt bef i k = true) : listed[k]? = some true := by
 obtain ⟨o, hlt, ho, hl, hpre⟩ := ready_spec hr hsz hi
 obtain ⟨-, e, he, hbe, hor⟩ := hr.hbef i o k ho hk hb
 have hel := hpre e he hbe
 rcases hor with rfl | hor
 ·exact hel
 ·exact hcl e.on k hel hk hor
theorem draw_any {lo : Nat} {os : List AOp} (hr : RegSt P N ops bef os) (st : Sta P N ops bef ds tot lo) (hbar : bar bef ops.size (lo + ds.length) = true) {Qm : Exit → Act → World → Prop} {Q : St → Prop}
 (hQ : ∀ (L : Nat → Prop) s a w X ι, DAt B r N n0 ds L s a w X ι → Q s → wpAnyIn (Fw r) 0 P .any ops Qm (ops.size - (lo + ds.length)) (upTo ops.size (lo + ds.length)) a w) :
 ∀ (fuel : Nat) (listed : Array Bool) (rest : List (Nat × DOp)) (s : St) (a : Act) (w : World)
 (X : Nat → Prop) (ι : Nat → Nat), listed.size = ops.size → RestOf ds lo listed rest → rest.length = fuel → (∀ i, i < lo → listed[i]? = some true) →
 (∀ i, lo + ds.length ≤ i → i < ops.size → listed[i]? = some false) → DAt B r N n0 ds (fun j => j < ds.length ∧ listed[lo + j]? = some true) s a w X ι →
 (∀ j k, listed[j]? = some true → k < ops.size → befAt bef j k = true → listed[k]? = some true) → wpD T (sndC P T) n0 (rest.map (·.2)) s Q →
 wpAnyIn (Fw r) 0 P .any ops Qm (fuel + (ops.size - (lo + ds.length))) listed a w := by
 intro fuel
 have hwin := st.hwin
 induction fuel with
 | zero =>
   intro listed rest s a w X ι hsz hre hlen hlo hhi h hcl hw
   have hnil : rest = [] := by cases rest; rfl; simp at hlen
   subst hnil
   have : listed = upTo ops.size (lo + ds.length) := upTo_eq hsz (fun i hi => by
    by_cases h1 : i < lo
    ·rw [hlo i h1]; simp; omega
    ·by_cases h2 : i < lo + ds.length
     ·have hdi : i - lo < ds.length := by omega
      have hli : i < listed.size := by omega
      cases hx : listed[i] with
      | true => rw [Array.getElem?_eq_getElem hli, hx]; simp [h2]
      | false =>
        have := (hre.mem (i - lo) ds[i - lo]).2 ⟨List.getElem?_eq_getElem hdi, by rw [show lo + (i - lo) = i by omega, Array.getElem?_eq_getElem hli, hx]⟩
        simp at this
     ·rw [hhi i (by omega) hi]; simp [h2])
   rw [this, Nat.zero_add]
   exact hQ _ s a w X ι h hw
 | succ fuel ih =>
   intro listed rest s a w X ι hsz hre hlen hlo hhi h hcl hw
   rw [show fuel + 1 + (ops.size - (lo + ds.length)) = (fuel + (ops.size - (lo + ds.length))) + 1 by omega]
   refine ⟨fun hnil => ?_, fun i hi => ?_⟩
   ·cases rest with
    | nil => simp at hlen
    | cons p rest =>
      obtain ⟨j, d⟩ := p
      obtain ⟨hjd, hjl⟩ := (hre.mem j d).1 (by simp)
      have hj : j < ds.length := (List.getElem?_eq_some_iff.1 hjd).1
      have := ready_first hr hsz (i := lo + j) (by omega) hjl (fun q hq => by
       by_cases h1 : q < lo
       ·exact hlo q h1
       ·have hdi : q - lo < ds.length := by omega
        have hli : q < listed.size := by omega
        cases hx : listed[q] with
        | true => rw [Array.getElem?_eq_getElem hli, hx]
        | false =>
          exfalso
          have hm := (hre.mem (q - lo) ds[q - lo]).2 ⟨List.getElem?_eq_getElem hdi, by rw [show lo + (q - lo) = q by omega, Array.getElem?_eq_getElem hli, hx]⟩
          rcases List.mem_cons.1 hm with h | h
          ·have : q - lo = j := congrArg Prod.fst h
           omega
          ·have := (List.pairwise_cons.1 hre.sorted).1 _ h
           simp only at this
           omega)
      rw [hnil] at this
      simp at this
   ·obtain ⟨o, hilt, ho, hl, hpre⟩ := ready_spec hr hsz hi
    have hpred : ∀ k, k < ops.size → befAt bef i k = true → listed[k]? = some true := fun k hk hb => ready_pred hr hsz hcl hi hk hb
    have hi1 : lo ≤ i := by
     by_cases h1 : i < lo
     ·rw [hlo i h1] at hl; cases hl
     ·omega
    have hi2 : i < lo + ds.length := by
     by_cases h2 : i < lo + ds.length
     ·exact h2
     ·exfalso
      cases rest with
      | nil => simp at hlen
      | cons p rest =>
        obtain ⟨j, d⟩ := p
        obtain ⟨hjd, hjl⟩ := (hre.mem j d).1 (by simp)
        have hj : j < ds.length := (List.getElem?_eq_some_iff.1 hjd).1
        have := hpred (lo + j) (by omega) (bar_spec hbar (by omega) (by omega) hilt)
        rw [hjl] at this; cases this
    obtain ⟨k, rfl⟩ : ∃ k, i = lo + k := ⟨i - lo, by omega⟩
    have hk : k < ds.length := by omega
    have hd : ds[k]? = some ds[k] := List.getElem?_eq_getElem hk
    generalize ds[k] = d at hd
    have hmem := (hre.mem k d).2 ⟨hd, hl⟩
    obtain ⟨l1, l2, rfl⟩ := List.append_of_mem hmem
    have hil : lo + k < listed.size := (Array.getElem?_eq_some_iff.1 hl).1
    have hs := List.pairwise_append.1 hre.sorted
    have hs2 := List.pairwise_cons.1 hs.2.1
    have hsep : ∀ e ∈ l1.map (·.2), Sep e d := by
     intro e he
     obtain ⟨⟨j, e'⟩, hje, rfl⟩ := List.mem_map.1 he
     obtain ⟨hjd, hjl⟩ := (hre.mem j e').1 (by simp [hje])
     have hji : j < k := hs.2.2 (j, e') hje (k, d) (by simp)
     obtain ⟨oj, hoj, -⟩ := st.hcomp j e' hjd
     obtain ⟨p1, p2⟩ := st.hpair j k e' d hji hjd hd
     refine ⟨p2 ?_, p1⟩
     have b1 : befAt bef (lo + k) (lo + j) = false := by
      cases hb : befAt bef (lo + k) (lo + j) with
      | false => rfl
      | true => have := hpred (lo + j) (by omega) hb; rw [hjl] at this; cases this
     have b2 : befAt bef (lo + j) (lo + k) = false := by
      cases hb : befAt bef (lo + j) (lo + k) with
      | false => rfl
      | true =>
        have := (st.hbef (lo + j) oj (lo + k) hoj (by omega) hb).1
        omega
     unfold befAt at b1 b2
     simp [apart, b1, b2]
    have hw' : wpD T (sndC P T) n0 (d :: (l1.map (·.2) ++ l2.map (·.2))) s Q := swapL (sndC_mono P T) _ _ s hsep (by simpa using hw)
    rw [wpD_cons] at hw'
    have hL' : ∀ q, ((listed.setIfInBounds (lo + k) true)[q]? = some true) ↔ (listed[q]? = some true ∨ q = lo + k) := by
     intro q
     by_cases e : lo + k = q
     ·subst e; simp [hil]
     ·rw [Array.getElem?_setIfInBounds_ne e]
      constructor
      ·exact .inl
      ·rintro (h | h)
       ·exact h
       ·exact absurd h.symm e
    refine draw_step st h hd (by rw [hl]; simp) (fun j hj => hj.1) (fun j q hj hq hb => ⟨hq, hcl (lo + j) (lo + q) hj.2 (by omega) hb⟩) hw' (fun s' a' w' X' ι' h' hw'' => ?_)
    refine ih (listed.setIfInBounds (lo + k) true) (l1 ++ l2) s' a' w' X' ι' (by simpa using hsz) ⟨?_, fun j e => ?_⟩ (by simp at hlen ⊢; omega) (fun q hq => (hL' q).2 (.inl (hlo q hq)))
     (fun q hq hqn => by rw [Array.getElem?_setIfInBounds_ne (by omega)]; exact hhi q hq hqn) ?_ (fun j q hj hq hb => ?_) (by simpa using hw'')
    ·exact List.pairwise_append.2 ⟨hs.1, hs2.2, fun p hp q hq => hs.2.2 p hp q (List.mem_cons_of_mem _ hq)⟩
    ·have hne : ∀ e', (k, e') ∉ l1 ++ l2 := fun e' hm => by
      rcases List.mem_append.1 hm with hm | hm
      ·have : k < k := hs.2.2 _ hm (k, d) (by simp)
       omega
      ·have : k < k := hs2.1 _ hm
       omega
     by_cases ej : k = j
     ·subst ej
      refine ⟨fun hm => absurd hm (hne e), fun hh => ?_⟩
      have := hh.2
      simp [hil] at this
     ·rw [Array.getElem?_setIfInBounds_ne (by omega)]
      rw [← hre.mem j e]
      simp only [List.mem_append, List.mem_cons, Prod.mk.injEq]
      constructor
      ·rintro (h | h)
       ·exact .inl h
       ·exact .inr (.inr h)
      ·rintro (h | h | h)
       ·exact .inl h
       ·exact absurd h.1.symm ej
       ·exact .inr h
    ·have : (fun j => j < ds.length ∧ (listed.setIfInBounds (lo + k) true)[lo + j]? = some true) = fun j => (j < ds.length ∧ listed[lo + j]? = some true) ∨ j = k := funext fun j => propext (by
      rw [hL']
      constructor
      ·rintro ⟨h1, h2 | h2⟩
       ·exact .inl ⟨h1, h2⟩
       ·exact .inr (by omega)
      ·rintro (⟨h1, h2⟩ | rfl)
       ·exact ⟨h1, .inl h2⟩
       ·exact ⟨hk, .inr rfl⟩)
     rw [this]; exact h'
    ·rcases (hL' j).1 hj with hj | rfl
     ·exact (hL' q).2 (.inl (hcl j q hj hq hb))
     ·exact (hL' q).2 (.inl (hpred q hq hb))
theorem draw_start (hat : At B r N s a w X ι) : DAt B r N s.n ds (fun _ => False) s a w X (fun id => if id < s.n then ι id else w.heap.size) := by
 have hι0 : ∀ id, id < s.n → (fun id => if id < s.n then ι id else w.heap.size) id = ι id := fun id h => by simp [h]
 have h1 : Ext w w X X ι (fun id => if id < s.n then ι id else w.heap.size) s.σ s.σ s.n s.n B.lk := {
  hn := Nat.le_refl _, os := rfl, tape := rfl, output := rfl, size := Nat.le_refl _, heap := fun _ _ _ => rfl, cells := fun b c t f h => ⟨c, h, rfl⟩, loops := fun _ q h => ⟨q, h⟩
  hι := hι0, xnew := fun _ _ h => h, xold := fun _ h _ => h, xlt := hat.wf.xlt
  own := fun id h1 h2 h3 => by
   have := hat.wf.dom id h2
   exact ⟨id, h1, h2, (hι0 id this).symm⟩
  lock := fun _ _ => rfl }
 have hwf : WF w X (fun id => if id < s.n then ι id else w.heap.size) s.σ s.n := hat.wf.move (Nat.le_refl _) (fun _ _ => rfl) hι0 (fun _ _ => Iff.rfl) (Nat.le_refl _) hat.wf.xlt
 exact {
  hn := rfl, hlk := hat.hlk, le := hat.le, size := hat.size
  marks := hat.marks
  rnd := hat.rnd
  ext := hat.ext.trans h1
  own := hwf.own, inj := hwf.inj, xlt := hwf.xlt
  dom := fun id hs => .inl (hwf.dom id hs)
  ob := fun id o hs => ⟨s.n, .inl rfl, hwf.ob hs⟩
  rep := fun t => ⟨s.n, .inl rfl, (hat.rep t).ext hat.wf h1⟩
  res := fun id hid _ => by
   have : ¬ id < s.n := by omega
   simp only [this, if_false]
   exact Nat.le_refl _
  inv := hat.inv }
theorem draw_end {lo : Nat} (st : Sta P N ops bef ds tot lo) {s : St} (h' : DAt B r N n0 ds L s a w X ι) : At B r N { s with n := n0 + BIG * tot } a w X ι := by
 have htop : ∀ (j : Nat) (d : DOp), ds[j]? = some d → d.top n0 ≤ n0 + BIG * tot := fun j d hd => by
  have h0 := st.htop j d hd
  unfold DOp.top DOp.lab
  cases hl : d.lays with
  | true =>
    rw [hl] at h0
    simp only [if_true] at h0 ⊢
    have := Nat.mul_le_mul_left BIG h0
    rw [Nat.mul_add, Nat.mul_one] at this
    omega
  | false =>
    rw [hl] at h0
    simp only [Bool.false_eq_true, if_false, Nat.add_zero] at h0 ⊢
    have := Nat.mul_le_mul_left BIG h0
    omega
 refine ⟨WF.of_ob (fun id o hs => ?_) h'.own h'.inj (fun id hs => ?_) h'.xlt, h'.hlk, ?_, h'.size, fun t => ?_, ?_, h'.marks, h'.rnd, h'.inv⟩
 ·obtain ⟨m, hb, ho⟩ := h'.ob id o hs
  have hm : m ≤ n0 + BIG * tot := by
   rcases hb with rfl | ⟨j, d, _, hd, _, rfl, _⟩
   ·omega
   ·exact htop j d hd
  exact ho.move' (Nat.le_refl _) (fun _ _ _ => rfl) (fun _ c _ _ h => ⟨c, h, rfl⟩) (fun _ _ _ => rfl) (fun _ _ h => h) hm rfl
 ·show id < n0 + BIG * tot
  rcases h'.dom id hs with h0 | ⟨j, d, _, hd, hl, _, hr⟩
  ·omega
  ·have := htop j d hd
   simp only [DOp.top, hl, if_true] at this
   omega
 ·have := h'.le
  show B.lk ≤ n0 + BIG * tot
  omega
 ·obtain ⟨m, hb, hr⟩ := h'.rep t
  have hm : m ≤ n0 + BIG * tot := by
   rcases hb with rfl | ⟨j, d, _, hd, _, rfl⟩
   ·omega
   ·exact htop j d hd
  exact hr.move (Nat.le_refl _) (fun _ _ _ => rfl) (fun _ c _ _ h => ⟨c, h, rfl⟩) (fun _ _ => rfl) (fun _ _ h => h) hm
 ·have he := h'.ext
  exact { he with hn := Nat.le_trans he.hn (Nat.le_add_right _ _) }
theorem draw_ones {os : List AOp} (hr : RegSt P N ops bef os) {Qm : Exit → Act → World → Prop} {Q : St → Prop} {hi : Nat}
 (hQ : ∀ s a w X ι, At B r N s a w X ι → Q s → wpAnyIn (Fw r) 0 P .any ops Qm (ops.size - hi) (upTo ops.size hi) a w) :
 ∀ (l : List AOp) (lo : Nat) (s : St) (a : Act) (w : World) (X : Nat → Prop) (ι : Nat → Nat), lo + l.length = hi → hi ≤ ops.size → (∀ (i : Nat) (o : AOp), l[i]? = some o → os[lo + i]? = some o) →
  (∀ i, i < l.length → bar bef ops.size (lo + (i + 1)) = true) → At B r N s a w X ι → wpR T (sndC P T) l s Q → wpAnyIn (Fw r) 0 P .any ops Qm (ops.size - lo) (upTo ops.size lo) a w
 | [], lo, s, a, w, X, ι, hlo, hle, hget, hbar, h, hw => by
   simp at hlo
   subst hlo
   exact hQ s a w X ι h hw
 | ao :: l, lo, s, a, w, X, ι, hlo, hle, hget, hbar, h, hw => by
   simp only [List.length_cons] at hlo hbar
   have hlt : lo < ops.size := by omega
   rw [show ops.size - lo = (ops.size - (lo + 1)) + 1 by omega]
   obtain ⟨o, ho, hao, -, -⟩ := hr.hcomp lo ao (hget 0 ao rfl)
   have hcl : ∀ j k, (upTo ops.size lo)[j]? = some true → k < ops.size → befAt bef j k = true → (upTo ops.size lo)[k]? = some true := by
    intro j k hj hk hb
    have hjn : j < ops.size := by have := (Array.getElem?_eq_some_iff.1 hj).1; rwa [upTo_size] at this
    rw [upTo_get hjn] at hj
    simp at hj
    have hoj : ops[j]? = some ops[j] := Array.getElem?_eq_getElem hjn
    have := (hr.hbef j _ k hoj hk hb).1
    rw [upTo_get hk]; simp; omega
   refine ⟨fun hnil => ?_, fun i hi' => ?_⟩
   ·have := ready_first hr (listed := upTo ops.size lo) upTo_size hlt (by rw [upTo_get hlt]; simp) (fun j hj => by rw [upTo_get (by omega)]; simp [hj])
    rw [hnil] at this
    simp at this
   ·have hil := ready_spec hr upTo_size hi'
    obtain ⟨o', hin, ho', hl, -⟩ := hil
    rw [upTo_get hin] at hl
    simp at hl
    have hi0 : i = lo := by
     by_cases e : i = lo
     ·exact e
     ·exfalso
      have := ready_pred hr upTo_size hcl hi' hlt (bar_spec (hbar 0 (by omega)) (i := lo) (j := i) (by omega) (by omega) hin)
      rw [upTo_get hlt] at this
      simp at this
    subst hi0
    have hset : (upTo ops.size i).setIfInBounds i true = upTo ops.size (i + 1) := upTo_eq (by rw [Array.size_setIfInBounds, upTo_size]) (fun j hj => by
     by_cases e : i = j
     ·subst e
      rw [Array.getElem?_setIfInBounds_self_of_lt (by rw [upTo_size]; exact hin)]; simp
     ·rw [Array.getElem?_setIfInBounds_ne e, upTo_get hj]
      congr 1
      exact decide_eq_decide.2 (by omega))
    rw [hset]
    obtain ⟨h1, h2, h3⟩ := cOper_spec hao
    simp only [wpR] at hw
    rw [wants_iff h hao] at hw
    have next : ∀ s' a' w' X' ι', At B r N s' a' w' X' ι' → wpR T (sndC P T) l s' Q → wpAnyIn (Fw r) 0 P .any ops Qm (ops.size - (i + 1)) (upTo ops.size (i + 1)) a' w' :=
     fun s' a' w' X' ι' h' hw' => draw_ones hr hQ l (i + 1) s' a' w' X' ι' (by omega) hle (fun q o hq => by have := hget (q + 1) o (by simpa using hq); rwa [show i + (q + 1) = i + 1 + q by omega] at this)
      (fun q hq => by have := hbar (q + 1) (by omega); rwa [show i + (q + 1 + 1) = i + 1 + (q + 1) by omega] at this) h' hw'
    unfold wpOpIn
    simp only [ho]
    split at hw <;> rename_i hwant
    ·rw [if_pos hwant]
     refine opW_sound (r := r) h.wf h.inv h.lkn (fun x x' hx => h.eval hx) (fun _ => rfl) h1 hw _ _ ?_
     intro u w' hres
     obtain ⟨v, σ', n', X', ι', hq, hrr, hwf, he⟩ := hres
     rw [h2] at hq
     exact next _ _ _ _ _ (h.put h3 hrr hwf he) hq
    ·rw [if_neg hwant]
     rw [h2] at hw
     exact ⟨fun _ _ => trivial, next _ _ _ _ _ (h.skip h3) hw⟩
theorem segs_ok {os : List AOp} (hr : RegSt P N ops bef os) {own : Nat → Bool} {Qm : Exit → Act → World → Prop} {Q : St → Prop} (hQ : ∀ s a w X ι, At B r N s a w X ι → Q s → Qm .normal a w) :
 ∀ (k lo : Nat) (l : List AOp) (segs : List Seg) (s : St) (a : Act) (w : World) (X : Nat → Prop) (ι : Nat → Nat), mkSegs bef own os.length k lo l = some segs → lo + l.length = ops.size →
  (∀ (i : Nat) (o : AOp), l[i]? = some o → os[lo + i]? = some o) → At B r N s a w X ι → wpS T (sndC P T) segs s Q → wpAnyIn (Fw r) 0 P .any ops Qm (ops.size - lo) (upTo ops.size lo) a w := by
 intro k
 have done : ∀ (lo : Nat) (l : List AOp) (segs : List Seg) (s : St) (a : Act) (w : World) (X : Nat → Prop) (ι : Nat → Nat), l.isEmpty = true → segs = [] → lo + l.length = ops.size →
  At B r N s a w X ι → wpS T (sndC P T) segs s Q → wpAnyIn (Fw r) 0 P .any ops Qm (ops.size - lo) (upTo ops.size lo) a w := by
  intro lo l segs s a w X ι he hs hlo h hw
  have hl : l = [] := by simpa using he
  subst hl; subst hs
  simp at hlo
  subst hlo
  rw [Nat.sub_self]
  refine ⟨?_, hQ s a w X ι h hw⟩
  cases hx : Region.ready .any ops (upTo ops.size ops.size) with
  | nil => rfl
  | cons i l =>
    exfalso
    obtain ⟨o, hin, -, hl, -⟩ := ready_spec hr (listed := upTo ops.size ops.size) upTo_size (i := i) (by rw [hx]; simp)
    rw [upTo_get hin] at hl
    simp at hl
    omega
 induction k with
 | zero =>
   intro lo l segs s a w X ι hm hlo hget h hw
   simp only [mkSegs] at hm
   split at hm
   ·rename_i he
    simp only [Option.some.injEq] at hm
    exact done lo l segs s a w X ι he hm.symm hlo h hw
   ·cases hm
 | succ k ih =>
   intro lo l segs s a w X ι hm hlo hget h hw
   simp only [mkSegs] at hm
   split at hm
   ·rename_i he
    simp only [Option.some.injEq] at hm
    exact done lo l segs s a w X ι he hm.symm hlo h hw
   ·rename_i he
    split at hm
    ·rename_i hc
     simp only [Bool.and_eq_true, decide_eq_true_eq, List.all_eq_true, List.mem_range] at hc
     obtain ⟨⟨⟨⟨hpos, hmp⟩, hb⟩, hok⟩, hones⟩ := hc
     simp only [Option.map_eq_some_iff] at hm
     obtain ⟨gs, hgs, rfl⟩ := hm
     generalize some' bef os.length (os.length - lo) lo = m at *
     generalize ones bef os.length (os.length - (lo + m)) (lo + m) = p at *
     simp only [wpS] at hw
     have hwl : (l.take m).length = m := by simp; omega
     have hol : ((l.drop m).take p).length = p := by simp; omega
     rw [hr.hlen] at hb hones hgs
     have hwin : ∀ (i : Nat) (o' : AOp), (l.take m)[i]? = some o' → os[lo + i]? = some o' := fun i o' hi => by
      rw [List.getElem?_take] at hi
      split at hi
      ·exact hget i o' hi
      ·cases hi
     have hle : lo + (l.take m).length ≤ ops.size := by simp; omega
     obtain ⟨st, hdl⟩ := mkWin_spec (own := own) hr hwin hle hok
     have hdm : (mkWin bef own lo (l.take m)).1.length = m := hdl.trans hwl
     have hclo : ∀ j k, (upTo ops.size lo)[j]? = some true → k < ops.size → befAt bef j k = true → (upTo ops.size lo)[k]? = some true := by
      intro j k hj hk hb
      have hjn : j < ops.size := by have := (Array.getElem?_eq_some_iff.1 hj).1; rwa [upTo_size] at this
      rw [upTo_get hjn] at hj
      simp at hj
      have hoj : ops[j]? = some ops[j] := Array.getElem?_eq_getElem hjn
      have := (hr.hbef j _ k hoj hk hb).1
      rw [upTo_get hk]; simp; omega
     have hd0 := draw_start (ds := (mkWin bef own lo (l.take m)).1) h
     have hL : (fun j => j < (mkWin bef own lo (l.take m)).1.length ∧ (upTo ops.size lo)[lo + j]? = some true) = fun _ => False := funext fun j => propext (by
      constructor
      ·rintro ⟨h1, h2⟩
       rw [upTo_get (by omega)] at h2
       simp at h2
       omega
      ·exact False.elim)
     have key := draw_any (T := T) (r := r) (Qm := Qm) (n0 := s.n) (Q := fun s' => wpR T (sndC P T) ((l.drop m).take p) { s' with n := s.n + BIG * (mkWin bef own lo (l.take m)).2 } (fun s2 => wpS T (sndC P T) gs s2 Q))
      hr st (by rw [hdm]; exact hb) (fun L s1 a1 w1 X1 ι1 h1 hq => by
       rw [hdm]
       refine draw_ones hr (hi := lo + m + p) (Q := fun s2 => wpS T (sndC P T) gs s2 Q) (fun s2 a2 w2 X2 ι2 h2 hq2 => ?_) ((l.drop m).take p) (lo + m) _ a1 w1 X1 ι1 (by rw [hol]) (by omega) (fun i o hi => ?_)
        (fun i hi => hones i (by rw [hol] at hi; exact hi)) (draw_end st h1) hq
       ·refine ih (lo + m + p) (l.drop (m + p)) gs s2 a2 w2 X2 ι2 (by rw [hr.hlen]; exact hgs) (by simp; omega) (fun i o hi => ?_) h2 hq2
        rw [List.getElem?_drop] at hi
        have := hget _ o hi
        rwa [show lo + (m + p + i) = lo + m + p + i by omega] at this
       ·rw [List.getElem?_take] at hi
        split at hi
        ·rw [List.getElem?_drop] at hi
         have := hget _ o hi
         rwa [show lo + (m + i) = lo + m + i by omega] at this
        ·cases hi)
      m (upTo ops.size lo) ((mkWin bef own lo (l.take m)).1.zipIdx.map fun q => (q.2, q.1)) s a w X _ upTo_size ⟨?_, fun j d => ?_⟩ (by simp [hdm]) (fun i hi => by rw [upTo_get (by omega)]; simp [hi])
      (fun i hi hin => by rw [upTo_get hin]; simp; omega) (by rw [hL]; exact hd0) hclo ?_
     ·rw [hdm, show m + (ops.size - (lo + m)) = ops.size - lo by omega] at key
      exact key
     ·rw [List.pairwise_map]
      rw [List.pairwise_iff_getElem]
      intro i j hi hj hij
      simp only [List.getElem_zipIdx]
      omega
     ·constructor
      ·intro hm
       obtain ⟨⟨d', j'⟩, hm', he⟩ := List.mem_map.1 hm
       simp only [Prod.mk.injEq] at he
       obtain ⟨rfl, rfl⟩ := he
       have hdj := List.mem_zipIdx_iff_getElem?.1 hm'
       refine ⟨hdj, ?_⟩
       have : j' < (mkWin bef own lo (l.take m)).1.length := (List.getElem?_eq_some_iff.1 hdj).1
       rw [upTo_get (by omega)]; simp
      ·intro ⟨hd, _⟩
       exact List.mem_map.2 ⟨(d, j), List.mem_zipIdx_iff_getElem?.2 hd, rfl⟩
     ·have : ((mkWin bef own lo (l.take m)).1.zipIdx.map fun q => (q.2, q.1)).map (·.2) = (mkWin bef own lo (l.take m)).1 := by
       rw [List.map_map]
       have : ((fun x : Nat × DOp => x.2) ∘ fun q : DOp × Nat => (q.2, q.1)) = Prod.fst := rfl
       rw [this, List.zipIdx_map_fst]
      rw [this]
      exact hw
    ·cases hm
theorem draw_ok (hmix : P.follows .mixedOrders = true) : DrawOk P T := by
 intro B r N id ops segs s a w X ι Q hc hat hw
 obtain ⟨bef, os, hr, hm⟩ := cDraw_spec hc
 refine wpIn_region_any hmix ?_
 have h1 : Ext w { w with drawn := w.drawn + 1 } X X ι ι s.σ s.σ s.n s.n s.lk := Ext.draw hat.wf.xlt _
 have hwf : WF { w with drawn := w.drawn + 1 } X ι s.σ s.n := hat.wf.move (Nat.le_refl _) (fun _ _ => rfl) (fun _ _ => rfl) (fun _ _ => Iff.rfl) (Nat.le_refl _) hat.wf.xlt
 have hat' := hat.put (dst := none) (v := .undef) (u := undef) rfl .undef hwf h1
 have h0 : Array.replicate ops.size false = upTo ops.size 0 := upTo_eq (by simp) (fun i hi => by rw [Array.getElem?_replicate, if_pos hi]; simp)
 rw [h0]
 have := segs_ok (T := T) (r := r) hr (Q := Q .normal) (Qm := PostOf B r N Q) (fun s' a' w' X' ι' h' hq => ⟨s', X', ι', h', hq⟩) _ 0 os segs s a _ X ι hm (by rw [Nat.zero_add]; exact hr.hlen)
  (fun i o hi => by rw [Nat.zero_add]; exact hi) hat' hw
 exact this
end
end Go.Q
end

section
/- What the evaluator says of a call on trees, the machine does. -/
namespace Go.Q
theorem sound [Glob] {P : Program} {T : Tab} (hmix : P.follows .mixedOrders = true) (hT : TabOf P T) {j : Job} {Q : Out → Prop} (h : run T j Q) : @sndC (lnk P T) _ P T j Q :=
 letI := lnk P T
 letI : PrimsOk P T := ⟨fun f p h => ⟨(hT.2 f p h).1, (hT.2 f p h).2.1⟩⟩
 letI : PrimsSay T := ⟨fun f p h => (hT.2 f p h).2.2⟩
 run_sound (draw_ok hmix) hmix hT h
end Go.Q
#print axioms Go.Q.sound
end

section
/- What a statement's arguments are, as trees. -/
namespace Go.Q
def Cs (W : World) (vs : List V) (cs : List Value) : Prop :=
 vs.length = cs.length ∧ (∀ (i : Nat) (e : V) (u : Value), vs[i]? = some e → cs[i]? = some u → Rep W (fun _ => False) (fun _ => 0) 0 e u) ∧ vs.all V.one = true
structure Enc (P : Program) (t : TypeId) (α : Type) where
 val : α → V
 ok : α → Prop
 opens : ∀ {H : Type} {enc : TypeId × Value → H} {W : World} {held : Bool} {fuel : Nat} {cs : List Value} {x : DataW H × List MemPlace},
  DataW.trod enc P W 0 (fun _ => true) held fuel t cs = some x → (∀ n ∈ x.1.weights P t, n ≤ reachBytes) → ∃ a, ok a ∧ Cs W (val a).cells cs
theorem weightsAll_mem {H : Type} {P : Program} {e : TypeId} {d : DataW H} : ∀ {ds : List (DataW H)}, d ∈ ds → ∀ n ∈ d.weights P e, n ∈ DataW.weightsAll P e ds
 | d0 :: ds, h, n, hn => by
   simp only [DataW.weightsAll, List.mem_append]
   rcases List.mem_cons.1 h with rfl | h
   ·exact .inl hn
   ·exact .inr (weightsAll_mem h n hn)
section
variable {P : Program}
def Enc.int {t : TypeId} (k : IntKind) (ht : P.underlying t = some (.int k)) : Enc P t Int where
 val := .int k
 ok := fun n => (Lit.int k n).wf = true
 opens := fun h _ => by
  obtain ⟨n, rfl, -, hw⟩ := DataW.trod_int ht h
  exact ⟨n, hw, rfl, fun i e u he hu => by
   cases i with
   | zero => simp [V.cells] at he hu; subst he; subst hu; exact .int _ _
   | succ i => simp at hu, rfl⟩
def Enc.bool {t : TypeId} (ht : P.underlying t = some .bool) : Enc P t Bool where
 val := .bool
 ok := fun _ => True
 opens := fun h _ => by
  obtain ⟨n, rfl, -⟩ := DataW.trod_bool ht h
  exact ⟨n, trivial, rfl, fun i e u he hu => by
   cases i with
   | zero => simp [V.cells] at he hu; subst he; subst hu; exact .bool _
   | succ i => simp at hu, rfl⟩
def Enc.str {t : TypeId} (ht : P.underlying t = some .string) : Enc P t ByteArray where
 val := .str
 ok := fun s => s.size ≤ reachBytes
 opens := fun {H enc W held fuel cs x} h hwt => by
  obtain ⟨n, rfl, hx, hw⟩ := DataW.trod_string ht h
  have hsz : n.size ≤ reachBytes := by
   subst hx
   have hwt : ∀ m ∈ DataW.weights P t (DataW.lit (H := H) (Lit.string n.data.toList)), m ≤ reachBytes := hwt
   have := hwt n.data.toList.length (by simp only [DataW.weights, List.mem_singleton])
   rw [Array.length_toList] at this
   exact this
  exact ⟨n, hsz, rfl, fun i e u he hu => by
   cases i with
   | zero => simp [V.cells] at he hu; subst he; subst hu; exact .str _
   | succ i => simp at hu, rfl⟩
def slV {β : Type} (sz : Nat) (f : β → V) : Option (List β) → V
 | none => .nilS
 | some l => .sl sz (l.map f)
theorem addr_plain {a : Addr} {W : World} {u : Value} (h : W.cell? a = some u) : a.spot = none := by
 unfold World.cell? at h
 split at h
 ·split at h
  ·cases h
  ·rename_i hs; cases hsp : a.spot with
   | none => rfl
   | some k => rw [hsp] at hs; simp at hs
 ·cases h
theorem list_choose {β : Type} {n : Nat} {p : Nat → β → Prop} (h : ∀ i, i < n → ∃ b, p i b) : ∃ l : List β, l.length = n ∧ ∀ (i : Nat) (b : β), l[i]? = some b → p i b := by
 induction n with
 | zero => exact ⟨[], rfl, fun i b hb => by simp at hb⟩
 | succ n ih =>
   obtain ⟨l, h1, h2⟩ := ih (fun i hi => h i (by omega))
   obtain ⟨b, hb⟩ := h n (by omega)
   refine ⟨l ++ [b], by simp [h1], fun i b' hb' => ?_⟩
   rw [List.getElem?_append] at hb'
   split at hb'
   ·exact h2 i b' hb'
   ·rename_i hn
    have hi : i = n := by
     have := (List.getElem?_eq_some_iff.1 hb').1
     simp at this
     omega
    subst hi
    rw [h1] at hb'
    simp at hb'
    subst hb'
    exact hb
def Enc.slice {t e : TypeId} {β : Type} (E : Enc P e β) (ht : P.underlying t = some (.slice e)) (sz : Nat) (hsz : P.cellsOf e = sz) (hpos : 0 < sz) (B : Nat) (hB : P.bytesOf e = B) : Enc P t (Option (List β)) where
 val := slV sz E.val
 ok := fun o => ∀ l, o = some l → l.length ≤ maxLen ∧ l.length * B ≤ reachBytes ∧ ∀ b ∈ l, E.ok b
 opens := fun {H enc W held fuel cs x} h hwt => by
  letI : Link := ⟨fun _ _ _ => False⟩
  rcases DataW.trod_slice ht h with ⟨rfl, -⟩ | ⟨a, len, cap, elems, rest, n, rfl, rfl, rfl, hb, hlc, hcm, hel, hget, -, -⟩
  ·refine ⟨none, (fun l hl => by cases hl), rfl, fun i e u he hu => ?_, rfl⟩
   cases i with
   | zero => simp [V.cells, slV] at he hu; subst he; subst hu; exact .nilS
   | succ i => simp at hu
  ·rw [hsz] at hget
   have hwt : ∀ n ∈ DataW.weights P t (DataW.slice (elems.map (·.1)) (rest.map (·.1))), n ≤ reachBytes := hwt
   simp only [DataW.weights, ht, List.mem_cons, List.mem_append, List.length_map] at hwt
   have hlen : len * B ≤ reachBytes := by
    have h1 := hwt _ (.inl rfl)
    rw [hB, hel] at h1
    exact Nat.le_trans (Nat.mul_le_mul_right B (Nat.le_add_right len rest.length)) h1
   have key : ∀ i, i < len → ∃ b, E.ok b ∧ ∃ ds, W.cells? 0 (a.add (i * sz)) sz = some ds ∧ Cs W (E.val b).cells ds := fun i hi => by
    have hi' : i < elems.length := by omega
    have := hget i hi
    rw [List.getElem?_eq_getElem hi', Option.bind_eq_some_iff] at this
    obtain ⟨ds, h1, h2⟩ := this
    obtain ⟨b, hok, hcs⟩ := E.opens h2 (fun n hn => hwt n (.inr (.inl (weightsAll_mem (List.mem_map_of_mem (List.getElem_mem hi')) n hn))))
    exact ⟨b, hok, ds, h1, hcs⟩
   obtain ⟨l, hl, hp⟩ := list_choose key
   refine ⟨some l, fun l' hl' => ?_, rfl, fun i e u he hu => ?_, rfl⟩
   ·cases hl'
    refine ⟨by omega, by rw [hl]; exact hlen, fun b hb => ?_⟩
    obtain ⟨i, hi, rfl⟩ := List.getElem_of_mem hb
    exact (hp i _ (List.getElem?_eq_getElem hi)).1
   ·cases i with
    | succ i => simp at hu
    | zero =>
      simp [V.cells, slV] at he hu
      subst he; subst hu
      cases l with
      | nil =>
        simp at hl
        subst hl
        exact .slE sz cap a
      | cons b0 l0 =>
        obtain ⟨-, ds0, hd0, -⟩ := hp 0 b0 rfl
        simp only [Nat.zero_mul] at hd0
        have ha0 : a.add 0 = a := by simp [Addr.add]
        rw [ha0] at hd0
        obtain ⟨-, hdl, hdc⟩ := World.cells?_some hd0
        have h0 := hdc 0 hpos
        rw [ha0, List.getElem?_eq_getElem (by omega)] at h0
        have hspot := addr_plain h0
        have hlt := World.cells?_block hd0 hpos
        obtain ⟨blk, o, sp⟩ := a
        simp only at hspot hlt
        subst hspot
        have hcell : ∀ (i : Nat) (b : β) (j : Nat) (e : V), (b0 :: l0)[i]? = some b → (E.val b).cells[j]? = some e →
         ∃ u, W.cell? ⟨blk, o + i * sz + j, none⟩ = some u ∧ Rep W (fun _ => False) (fun _ => 0) 0 e u := by
         intro i b j e hb he
         obtain ⟨-, ds, hds, hc1, hc2, -⟩ := hp i b hb
         obtain ⟨-, hdl', hdc'⟩ := World.cells?_some hds
         have hj : j < ds.length := by have := (List.getElem?_eq_some_iff.1 he).1; omega
         have := hdc' j (by omega)
         rw [add_none, add_none, List.getElem?_eq_getElem hj] at this
         exact ⟨ds[j], this, hc2 j e _ he (List.getElem?_eq_getElem hj)⟩
        have hlen : len = ((b0 :: l0).map E.val).length := by rw [List.length_map]; exact hl.symm
        rw [hlen]
        refine .sl sz ((b0 :: l0).map E.val) blk o cap (fun i j => (W.cell? ⟨blk, o + i * sz + j, none⟩).getD undef) (by omega) (fun h => h) hlt (fun i x hx => ?_) (fun i x j e hx he => ?_) (fun i x j e hx he => ?_)
        ·rw [List.getElem?_map, Option.map_eq_some_iff] at hx
         obtain ⟨b, hb, rfl⟩ := hx
         obtain ⟨-, ds, hds, hc1, -, hc3⟩ := hp i b hb
         obtain ⟨-, hdl', -⟩ := World.cells?_some hds
         exact ⟨hc1.trans hdl', hc3⟩
        ·rw [List.getElem?_map, Option.map_eq_some_iff] at hx
         obtain ⟨b, hb, rfl⟩ := hx
         obtain ⟨u, hu, -⟩ := hcell i b j e hb he
         rw [hu]; rfl
        ·rw [List.getElem?_map, Option.map_eq_some_iff] at hx
         obtain ⟨b, hb, rfl⟩ := hx
         obtain ⟨u, hu, hr⟩ := hcell i b j e hb he
         rw [hu]; exact hr
structure EncF (P : Program) (off : Nat) (fs : List Field) (tot : Nat) (α : Type) where
 val : α → List V
 ok : α → Prop
 opens : ∀ {H : Type} {enc : TypeId × Value → H} {W : World} {held : Bool} {fuel : Nat} {cs : List Value},
  (∀ f ∈ fs, ∃ x, DataW.trod enc P W 0 (fun _ => true) held fuel f.type ((cs.drop f.offset).take (P.cellsOf f.type)) = some x ∧ ∀ n ∈ x.1.weights P f.type, n ≤ reachBytes) → ∃ a, ok a ∧ Cs W (val a) ((cs.drop off).take tot)
def EncF.nil {off : Nat} : EncF P off [] 0 Unit where
 val := fun _ => []
 ok := fun _ => True
 opens := fun _ => ⟨(), trivial, by simp [Cs]⟩
theorem Cs.append {W : World} {vs vs' : List V} {cs cs' : List Value} (h : Cs W vs cs) (h' : Cs W vs' cs') : Cs W (vs ++ vs') (cs ++ cs') := by
 obtain ⟨a1, a2, a3⟩ := h
 obtain ⟨b1, b2, b3⟩ := h'
 refine ⟨by simp [a1, b1], fun i e u he hu => ?_, by simp [a3, b3]⟩
 rw [List.getElem?_append] at he hu
 rw [a1] at he
 split at he
 ·rename_i hlt
  rw [if_pos hlt] at hu; exact a2 i e u he hu
 ·rename_i hlt
  rw [if_neg hlt] at hu; exact b2 _ e u he hu
def EncF.cons {off tot sz : Nat} {f : Field} {fs : List Field} {β γ : Type} (E : Enc P f.type β) (hoff : f.offset = off) (hsz : P.cellsOf f.type = sz) (R : EncF P (off + sz) fs tot γ) :
 EncF P off (f :: fs) (sz + tot) (β × γ) where
 val := fun x => (E.val x.1).cells ++ R.val x.2
 ok := fun x => E.ok x.1 ∧ R.ok x.2
 opens := fun {H enc W held fuel cs} h => by
  obtain ⟨x, hx, hwx⟩ := h f (by simp)
  obtain ⟨b, hb, hcb⟩ := E.opens hx hwx
  obtain ⟨c, hc, hcc⟩ := R.opens (fun g hg => h g (List.mem_cons_of_mem _ hg))
  refine ⟨(b, c), ⟨hb, hc⟩, ?_⟩
  rw [hoff, hsz] at hcb
  have : (cs.drop off).take (sz + tot) = (cs.drop off).take sz ++ (cs.drop (off + sz)).take tot := by
   rw [List.take_add, List.drop_drop]
  rw [this]
  exact hcb.append hcc
def Enc.struct {t : TypeId} {fs : Array Field} {tot : Nat} {α : Type} (R : EncF P 0 fs.toList tot α) (ht : P.underlying t = some (.struct fs)) (htot : P.cellsOf t = tot) : Enc P t α where
 val := fun a => .agg (R.val a)
 ok := R.ok
 opens := fun {H enc W held fuel cs x} h hwt => by
  obtain ⟨xs, n, rfl, rfl, hl, hlx, hget⟩ := DataW.trod_struct ht h
  simp only [DataW.weights, ht] at hwt
  obtain ⟨a, ha, hc⟩ := R.opens (enc := enc) (W := W) (held := held) (fuel := n) (cs := cs) (fun f hf => by
   obtain ⟨i, hi, rfl⟩ := List.getElem_of_mem hf
   have hi' : i < fs.size := by simpa using hi
   have hix : i < xs.length := by omega
   have := hget i fs[i] (Array.getElem?_eq_getElem hi')
   rw [List.getElem?_eq_getElem hix] at this
   refine ⟨_, by simpa using this, fun m hm => hwt m (DataW.weights_mem_each (j := i) (t := fs.toList[i].type) (d := xs[i].1) ?_ ?_ m hm)⟩
   ·rw [List.getElem?_map, List.getElem?_eq_getElem hi]; rfl
   ·rw [List.getElem?_map, List.getElem?_eq_getElem hix]; rfl)
  refine ⟨a, ha, ?_⟩
  rw [htot] at hl
  simpa [V.cells, ← hl] using hc
theorem Cs.flat {W : World} {β : Type} (f : β → List V) (g : Nat → List Value) : ∀ (l : List β) (k : Nat), (∀ (i : Nat) (b : β), l[i]? = some b → Cs W (f b) (g (k + i))) → Cs W (l.flatMap f) ((List.range' k l.length).flatMap g)
 | [], k, _ => by simp [Cs]
 | b :: l, k, h => by
   rw [List.flatMap_cons, List.length_cons, List.range'_succ, List.flatMap_cons]
   refine Cs.append (by simpa using h 0 b rfl) (Cs.flat f g l (k + 1) (fun i c hc => ?_))
   have := h (i + 1) c (by simpa using hc)
   rwa [show k + (i + 1) = k + 1 + i from by omega] at this
theorem chunks {α : Type} (sz : Nat) : ∀ (n k : Nat) (cs : List α), (List.range' k n).flatMap (fun i => (cs.drop (i * sz)).take sz) = (cs.drop (k * sz)).take (n * sz)
 | 0, k, cs => by simp
 | n + 1, k, cs => by
   rw [List.range'_succ, List.flatMap_cons, chunks sz n (k + 1) cs, Nat.succ_mul k, Nat.succ_mul n, Nat.add_comm (n * sz) sz, List.take_add, List.drop_drop]
def Enc.array {t e : TypeId} {β : Type} (E : Enc P e β) (n : Nat) (ht : P.underlying t = some (.array n e)) (sz : Nat) (hsz : P.cellsOf e = sz) (htot : P.cellsOf t = n * sz) : Enc P t (List β) where
 val := fun l => .agg (l.flatMap fun b => (E.val b).cells)
 ok := fun l => l.length = n ∧ ∀ b ∈ l, E.ok b
 opens := fun {H enc W held fuel cs x} h hwt => by
  obtain ⟨xs, m, rfl, rfl, hl, hlx, hget⟩ := DataW.trod_array ht h
  simp only [DataW.weights, ht] at hwt
  rw [hsz] at hget
  rw [htot] at hl
  have key : ∀ i, i < n → ∃ b, E.ok b ∧ Cs W (E.val b).cells ((cs.drop (i * sz)).take sz) := fun i hi => by
   have hix : i < xs.length := by omega
   have := hget i hi
   rw [List.getElem?_eq_getElem hix] at this
   exact E.opens this (fun k hk => hwt k (weightsAll_mem (List.mem_map_of_mem (List.getElem_mem hix)) k hk))
  obtain ⟨l, hll, hp⟩ := list_choose key
  refine ⟨l, ⟨hll, fun b hb => ?_⟩, ?_⟩
  ·obtain ⟨i, hi, rfl⟩ := List.getElem_of_mem hb
   exact (hp i _ (List.getElem?_eq_getElem hi)).1
  ·have h1 := Cs.flat (W := W) (fun b => (E.val b).cells) (fun i => (cs.drop (i * sz)).take sz) l 0 (fun i b hb => by simpa using (hp i b hb).2)
   rw [chunks, hll, Nat.zero_mul, List.drop_zero, ← hl, List.take_length] at h1
   exact h1
end
end Go.Q
end

section
/- A law's call, out of the evaluator's word. -/
namespace Go.Q
section
variable [Glob] {P : Program} {T : Tab}
theorem law_calls (hmix : P.follows .mixedOrders = true) (hT : TabOf P T) {f : Nat} {vs : List V} {us : Array Value} {w : World} (hs : us.size = vs.length)
 (hr : ∀ (i : Nat) (e : V) (u : Value), vs[i]? = some e → us[i]? = some u → Rep w (fun _ => False) (fun _ => 0) 0 e u)
 (h : run T (.pure f vs) (fun o => o = .val (.bool true))) (hi : Glob.inv w (fun _ => False)) : Calls P f us w fun e w' => e = .returned (.bool true) ∧ Go.RowKit.Below w.heap.size w w' := by
 letI := lnk P T
 obtain ⟨-, h2⟩ := sound hmix hT h
 refine callsIn_wide.1 ((h2 w (fun _ => False) us (fun _ h => h.elim) ⟨hs, hr⟩ hi).mono fun e w' hh => ?_)
 obtain ⟨u, r, rfl, hq, X1, ι1, σ1, n1, v, hw1, hr1, hback, he⟩ := hh
 cases hq
 have hv : v = .bool true := by
  have key : frz σ1 DEEP v = some (.bool true) ∨ giv σ1 DEEP v = some (.bool true) := by
   unfold back at hback
   split at hback
   ·exact .inr hback.1
   ·exact .inl hback
  rcases key with key | key
  ·cases v <;> simp [frz, DEEP, Option.bind_eq_some_iff] at key ⊢ <;> exact key
  ·cases v
   case fn f cs => cases cs <;> simp [giv, DEEP] at key
   case ref id off len sz =>
    simp only [giv, DEEP] at key
    split at key
    ·split at key
     ·simp at key
     ·cases key
    ·cases key
   all_goals first | (simp [giv, DEEP] at key; done) | (simp [giv, DEEP] at key ⊢; exact key)
 subst hv
 cases hr1
 refine ⟨rfl, he.os, he.tape, he.output, he.size, fun k hk => he.heap k hk (fun ⟨id, _, h1, _⟩ => h1 rfl)⟩
theorem rep_one {t : TypeId} {α : Type} (E : Enc P t α) {H : Type} {enc : TypeId × Value → H} {W : World} {held : Bool} {v : Value} {d : DataW H} {p : List MemPlace}
 (h : DataW.Trod enc P W 0 (fun _ => true) held t v d p) (hwt : ∀ n ∈ d.weights P t, n ≤ reachBytes) (hv : v.cells = #[v]) (h1 : ∀ a, (E.val a).one = true) :
 ∃ a, E.ok a ∧ Rep W (fun _ => False) (fun _ => 0) 0 (E.val a) v := by
 letI : Link := ⟨fun _ _ _ => False⟩
 obtain ⟨fuel, hf⟩ := h
 obtain ⟨a, hok, -, hc, -⟩ := E.opens hf hwt
 refine ⟨a, hok, hc 0 (E.val a) v ?_ ?_⟩
 ·rw [one_cells (h1 a)]; rfl
 ·rw [hv]; rfl
end
end Go.Q
end

section
/- A run comes to one end: what two runs of one job say holds of one outcome. -/
namespace Go.Q
section
variable {T : Tab}
def MeetC (C C' : Calls') : Prop := ∀ j Q Q', C j Q → C' j Q' → ∃ o, Q o ∧ Q' o
variable {C C' : Calls'}
theorem callW_meet (h : MeetC C C') {fs : Bool} {f : Nat} {args : List V} {σ : Sto} {n lk : Nat} {Q Q' : V → Sto → Nat → Prop}
 (h1 : callW T C fs f args σ n lk Q) (h2 : callW T C' fs f args σ n lk Q') : ∃ v σ' n', Q v σ' n' ∧ Q' v σ' n' := by
 unfold callW at *
 cases hmode : T.mode f <;> simp only [hmode] at h1 h2
 case raw =>
  obtain ⟨o, ho, ho'⟩ := h _ _ _ h1.2 h2.2
  cases o <;> try exact ho.elim
  exact ⟨_, _, _, ho, ho'⟩
 all_goals
  obtain ⟨ts, a1, r, a2, D, a3, a4, a5, a6⟩ := h1
  obtain ⟨ts', b1, r', b2, D', b3, b4, b5, b6⟩ := h2
  rw [a1] at b1
  cases b1
  obtain ⟨o, ho, ho'⟩ := h _ _ _ a2 b2
  have hr := ho.symm.trans ho'
  simp only [Out.val.injEq] at hr
  subst hr
  have hD := a3.trans b3.symm
  subst hD
  exact ⟨_, _, _, a6, b6⟩
theorem yieldW_meet (h : MeetC C C') {l : Nat} {args : List V} {σ : Sto} {n lk : Nat} {Q Q' : V → Sto → Nat → Prop}
 (h1 : yieldW C l args σ n lk Q) (h2 : yieldW C' l args σ n lk Q') : ∃ v σ' n', Q v σ' n' ∧ Q' v σ' n' := by
 unfold yieldW at *
 split at h1
 ·rename_i hl
  simp only [hl] at h2
  obtain ⟨o, ho, ho'⟩ := h _ _ _ h1.2.2 h2.2.2
  cases o <;> try exact ho.elim
  obtain ⟨a1, a2, a3, a4, a5, e1, q1⟩ := ho
  obtain ⟨b1, b2, b3, b4, b5, e2, q2⟩ := ho'
  rw [e1] at e2
  cases e2
  exact ⟨_, _, _, q1, q2⟩
 ·exact h1.elim
theorem nextW_meet {it : V} {σ : Sto} {n lk : Nat} {Q Q' : V → Sto → Nat → Prop} (h1 : nextW it σ n lk Q) (h2 : nextW it σ n lk Q') : ∃ v σ' n', Q v σ' n' ∧ Q' v σ' n' := by
 unfold nextW at *
 split at h1 <;> try exact h1.elim
 rename_i id
 split at h1 <;> try exact h1.elim
 rename_i m since seen last he
 split at h1 <;> try exact h1.elim
 rename_i es clk hm
 simp only [he, hm] at h2
 by_cases hx : ∃ e ∈ es, e.2.2 ∉ seen
 ·obtain ⟨e, a, b⟩ := hx
  exact ⟨_, _, _, h1.2.2.1 e a b, h2.2.2.1 e a b⟩
 ·have hh : ∀ e ∈ es, e.2.2 ∉ seen → since ≤ e.2.2 := fun e a b => absurd ⟨e, a, b⟩ hx
  exact ⟨_, _, _, h1.2.2.2 hh, h2.2.2.2 hh⟩
theorem opW_meet (h : MeetC C C') {fs : Bool} {ρ : Opd → V} {σ : Sto} {n lk : Nat} {ai : AI} {Q Q' : V → Sto → Nat → Prop}
 (h1 : opW T C fs ρ σ n lk ai Q) (h2 : opW T C' fs ρ σ n lk ai Q') : ∃ v σ' n', Q v σ' n' ∧ Q' v σ' n' := by
 unfold opW at *
 split at h1
 ·exact callW_meet h h1 h2
 ·split at h1
  ·rename_i hg; exact callW_meet h h1 (by simpa only [hg] using h2)
  ·rename_i hg; exact callW_meet h h1 (by simpa only [hg] using h2)
  ·rename_i hg; simp only [hg] at h2; exact yieldW_meet h h1.2 h2.2
  ·exact h1.elim
 ·obtain ⟨-, h1⟩ := h1
  obtain ⟨-, h2⟩ := h2
  split at h1
  ·rename_i hg; exact callW_meet h h1 (by simpa only [hg] using h2)
  ·exact h1.elim
 ·exact nextW_meet h1.2 h2.2
 ·split at h1
  ·rename_i v σ' n' he; exact ⟨_, _, _, h1, by simpa only [he] using h2⟩
  ·exact h1.elim
 ·split at h1
  ·rename_i v σ' n' he; exact ⟨_, _, _, h1, by simpa only [he] using h2⟩
  ·exact h1.elim
theorem wpR_meet (h : MeetC C C') : ∀ (ops : List AOp) (s : St) (Q Q' : St → Prop), wpR T C ops s Q → wpR T C' ops s Q' → ∃ s', Q s' ∧ Q' s'
 | [], s, Q, Q', h1, h2 => ⟨s, h1, h2⟩
 | o :: ops, s, Q, Q', h1, h2 => by
   simp only [wpR] at *
   split at h1 <;> rename_i hw <;> simp only [hw, if_true, if_false, Bool.false_eq_true] at h2
   ·obtain ⟨v, σ', n', a, b⟩ := opW_meet h h1 h2
    exact wpR_meet h ops _ _ _ a b
   ·exact wpR_meet h ops _ _ _ h1 h2
theorem wpD_meet (h : MeetC C C') (n0 : Nat) : ∀ (ops : List DOp) (s : St) (Q Q' : St → Prop), wpD T C n0 ops s Q → wpD T C' n0 ops s Q' → ∃ s', Q s' ∧ Q' s'
 | [], s, Q, Q', h1, h2 => ⟨s, h1, h2⟩
 | d :: ops, s, Q, Q', h1, h2 => by
   simp only [wpD] at *
   split at h1 <;> rename_i hw <;> simp only [hw, if_true, if_false, Bool.false_eq_true] at h2
   ·obtain ⟨v, σ', n', a, b⟩ := opW_meet h h1 h2
    exact wpD_meet h n0 ops _ _ _ a.2 b.2
   ·exact wpD_meet h n0 ops _ _ _ h1 h2
theorem wpS_meet (h : MeetC C C') : ∀ (segs : List Seg) (s : St) (Q Q' : St → Prop), wpS T C segs s Q → wpS T C' segs s Q' → ∃ s', Q s' ∧ Q' s'
 | [], s, Q, Q', h1, h2 => ⟨s, h1, h2⟩
 | g :: gs, s, Q, Q', h1, h2 => by
   obtain ⟨s1, a, b⟩ := wpD_meet h s.n g.ds s _ _ h1 h2
   obtain ⟨s2, a, b⟩ := wpR_meet h g.ops _ _ _ a b
   exact wpS_meet h gs s2 _ _ a b
theorem thenW_meet {K K' : St → Prop} {Q Q' : Ex → St → Prop} {e : Ex} {s : St} (hk : K s → K' s → ∃ e s', Q e s' ∧ Q' e s')
 (h1 : thenW K Q e s) (h2 : thenW K' Q' e s) : ∃ e s', Q e s' ∧ Q' e s' := by
 cases e <;> simp only [thenW] at h1 h2
 ·exact hk h1 h2
 ·exact ⟨_, _, h1, h2⟩
 ·exact ⟨_, _, h1, h2⟩
theorem loopW_out {B : St → (Ex → St → Prop) → Prop} (hB : ∀ s Q Q', (∀ e s, Q e s → Q' e s) → B s Q → B s Q') {s : St} {Q : Ex → St → Prop}
 (h : loopW B s Q) : B s (thenW (fun s' => loopW B s' Q) Q) :=
 h (fun s => B s (thenW (fun s' => loopW B s' Q) Q)) fun s hs => hB s _ _ (fun e s' hh => by
  cases e <;> simp only [thenW] at *
  ·exact loopW_step hB hh
  ·exact hh
  ·exact hh) hs
theorem wpC_meet (hm' : MonoC C') (h : MeetC C C') : ∀ (c : AC) (s : St) (Q Q' : Ex → St → Prop), wpC T C c s Q → wpC T C' c s Q' → ∃ e s', Q e s' ∧ Q' e s'
 | .skip, s, Q, Q', h1, h2 => ⟨_, _, h1, h2⟩
 | .reg ops, s, Q, Q', h1, h2 => by
   obtain ⟨s', a, b⟩ := wpR_meet h ops s _ _ h1 h2
   exact ⟨_, _, a, b⟩
 | .regd segs, s, Q, Q', h1, h2 => by
   obtain ⟨s', a, b⟩ := wpS_meet h segs s _ _ h1 h2
   exact ⟨_, _, a, b⟩
 | .seq a b, s, Q, Q', h1, h2 => by
   simp only [wpC] at h1 h2
   obtain ⟨e, s', p, q⟩ := wpC_meet hm' h a s _ _ h1 h2
   exact thenW_meet (fun x y => wpC_meet hm' h b s' _ _ x y) p q
 | .cond x a b, s, Q, Q', h1, h2 => by
   simp only [wpC] at h1 h2
   split at h1
   ·rename_i hx; simp only [hx] at h2; exact wpC_meet hm' h a s _ _ h1 h2
   ·rename_i hx; simp only [hx] at h2; exact wpC_meet hm' h b s _ _ h1 h2
   ·exact h1.elim
 | .block id c, s, Q, Q', h1, h2 => by
   simp only [wpC] at h1 h2
   obtain ⟨e, s', p, q⟩ := wpC_meet hm' h c s _ _ h1 h2
   cases e <;> simp only [blockW] at p q
   ·exact ⟨_, _, p, q⟩
   ·split at p <;> rename_i hi <;> simp only [hi, if_true, if_false] at q
    ·exact ⟨_, _, p, q⟩
    ·exact ⟨_, _, p, q⟩
   ·exact ⟨_, _, p, q⟩
 | .loop c, s, Q, Q', h1, h2 => by
   simp only [wpC] at h1 h2
   refine h1 (fun s => loopW (wpC T C' c) s Q' → ∃ e s', Q e s' ∧ Q' e s') (fun s hs h2 => ?_) h2
   obtain ⟨e, s', p, q⟩ := wpC_meet hm' h c s _ _ hs (loopW_out (fun s Q Q' hq hh => wpC_mono (fun _ _ x => x) hm' c s Q Q' hq hh) h2)
   exact thenW_meet (fun x y => x y) p q
 | .rangeF g ps assign body, s, Q, Q', h1, h2 => by
   simp only [wpC, rangeW] at h1 h2
   split at h1
   ·rename_i hg
    simp only [hg] at h2
    obtain ⟨o, ho, ho'⟩ := h _ _ _ h1.2 h2.2
    cases o <;> try exact ho.elim
    simp only at ho ho'
    split at ho
    ·rename_i hl
     simp only [hl] at ho'
     exact ⟨_, _, ho.2, ho'.2⟩
    ·exact ho.elim
   ·exact h1.elim
 | .exit id, s, Q, Q', h1, h2 => ⟨_, _, h1, h2⟩
 | .ret, s, Q, Q', h1, h2 => ⟨_, _, h1, h2⟩
theorem back_one {m : Mode} {σ : Sto} {v r r' : V} (h : back m σ v r) (h' : back m σ v r') : r = r' := by
 cases m <;> simp only [back] at h h'
 ·exact Option.some.inj (h.symm.trans h')
 ·exact Option.some.inj (h.1.symm.trans h'.1)
 ·exact Option.some.inj (h.symm.trans h')
theorem jobW_meet (hm' : MonoC C') (h : MeetC C C') {j : Job} {Q Q' : Out → Prop} (h1 : jobW T C j Q) (h2 : jobW T C' j Q') : ∃ o, Q o ∧ Q' o := by
 cases j <;> simp only [jobW] at h1 h2
 ·obtain ⟨fn, a1, a2, a3, a4⟩ := h1
  obtain ⟨fn', b1, b2, b3, b4⟩ := h2
  rw [a1] at b1; cases b1
  obtain ⟨e, s, ⟨p1, v, p2, r, p3, p4⟩, ⟨q1, v', q2, r', q3, q4⟩⟩ := wpC_meet hm' h _ _ _ _ a4 b4
  rw [p2] at q2; cases q2
  cases back_one p3 q3
  exact ⟨_, p4, q4⟩
 ·obtain ⟨fn, a1, a2, a4⟩ := h1
  obtain ⟨fn', b1, b2, b4⟩ := h2
  rw [a1] at b1; cases b1
  obtain ⟨e, s, ⟨p1, v, p2, p4⟩, ⟨q1, v', q2, q4⟩⟩ := wpC_meet hm' h _ _ _ _ a4 b4
  rw [p2] at q2; cases q2
  exact ⟨_, p4, q4⟩
 ·obtain ⟨e, s, ⟨p1, x1, x2, x3, x4, x5, p2, p3⟩, ⟨q1, y1, y2, y3, y4, y5, q2, q3⟩⟩ := wpC_meet hm' h _ _ _ _ h1 h2
  rw [p2] at q2; cases q2
  obtain ⟨e', s', ⟨_, p4⟩, ⟨_, q4⟩⟩ := wpC_meet hm' h _ _ _ _ p3 q3
  exact ⟨_, p4, q4⟩
theorem run_out {j : Job} {Q : Out → Prop} (h : run T j Q) : jobW T (run T) j Q :=
 jobD_W run_mono (h (fun j Q => jobD T (run T) j Q) (fun j Q Q' hq hh => jobD_mono (fun _ _ x => x) run_mono hq hh)
  (fun j Q hh => jobD_mono (fun j Q x => run_stepD x) run_mono (fun _ x => x) hh))
theorem run_meet : MeetC (run T) (run T) := fun j Q Q' h h' => by
 have hmo : MonoC (fun j Q => ∀ Q', run T j Q' → ∃ o, Q o ∧ Q' o) := fun j Q Q' hq hh R hR => by
  obtain ⟨o, a, b⟩ := hh R hR
  exact ⟨o, hq o a, b⟩
 exact h _ hmo (fun j Q hh Q' hQ' => jobW_meet run_mono (fun j Q Q' a b => a Q' b) (jobD_W hmo hh) (run_out hQ')) Q' h'
noncomputable def res (T : Tab) (f : Nat) (vs : List V) : Option V :=
 open Classical in if h : ∃ r, run T (.pure f vs) (fun o => o = .val r) then some h.choose else none
theorem res_run {f : Nat} {vs : List V} {r : V} (h : res T f vs = some r) : run T (.pure f vs) (fun o => o = .val r) := by
 unfold res at h
 split at h
 ·rename_i hx; cases h; exact hx.choose_spec
 ·cases h
theorem run_res {f : Nat} {vs : List V} {r : V} (h : run T (.pure f vs) (fun o => o = .val r)) : res T f vs = some r := by
 have hx : ∃ r, run T (.pure f vs) (fun o => o = .val r) := ⟨r, h⟩
 unfold res
 rw [dif_pos hx]
 obtain ⟨o, a, b⟩ := run_meet _ _ _ hx.choose_spec h
 rw [a] at b
 simp only [Out.val.injEq] at b
 rw [b]
end
end Go.Q
end

section
/- A run comes to something definite. -/
namespace Go.Q
section
variable {T : Tab}
def DefC (C C' : Calls') : Prop := ∀ j Q, C j Q → ∃ o, Q o ∧ C' j (fun o' => o' = o)
variable {C C' : Calls'}
def AI.det : AI → Bool
 | .next _ => false
 | _ => true
def detR (ops : List AOp) : Bool := ops.all fun o => o.op.det
def AC.det : AC → Bool
 | .reg ops => detR ops
 | .regd segs => segs.all fun g => detR g.ops
 | .seq a b => a.det && b.det
 | .cond _ a b => a.det && b.det
 | .block _ c => c.det
 | .loop c => c.det
 | _ => true
def Job.det (T : Tab) : Job → Prop
 | .pure f _ => ∀ fn, T.fn f = some fn → fn.body.det = true
 | .raw f .. => ∀ fn, T.fn f = some fn → fn.body.det = true
 | .round _ _ a b .. => a.det = true ∧ b.det = true
theorem callW_def (h : DefC C C') (hm : MonoC C') {fs : Bool} {f : Nat} {args : List V} {σ : Sto} {n lk : Nat} {Q : V → Sto → Nat → Prop}
 (h1 : callW T C fs f args σ n lk Q) : ∃ v σ' n', Q v σ' n' ∧ callW T C' fs f args σ n lk (fun v2 σ2 n2 => v2 = v ∧ σ2 = σ' ∧ n2 = n') := by
 unfold callW at *
 cases hmode : T.mode f <;> simp only [hmode] at h1 ⊢
 case raw =>
  obtain ⟨o, ho, ho'⟩ := h _ _ h1.2
  cases o <;> try exact ho.elim
  exact ⟨_, _, _, ho, h1.1, hm _ _ _ (fun o' e => by subst e; exact ⟨rfl, rfl, rfl⟩) ho'⟩
 all_goals
  obtain ⟨ts, a1, r, a2, D, a3, a4, a5, a6⟩ := h1
  obtain ⟨o, ho, ho'⟩ := h _ _ a2
  subst ho
  exact ⟨_, _, _, a6, ts, a1, r, ho', D, a3, a4, a5, rfl, rfl, rfl⟩
theorem yieldW_def (h : DefC C C') (hm : MonoC C') {l : Nat} {args : List V} {σ : Sto} {n lk : Nat} {Q : V → Sto → Nat → Prop}
 (h1 : yieldW C l args σ n lk Q) : ∃ v σ' n', Q v σ' n' ∧ yieldW C' l args σ n lk (fun v2 σ2 n2 => v2 = v ∧ σ2 = σ' ∧ n2 = n') := by
 unfold yieldW at *
 split at h1
 ·rename_i hl
  simp only [hl]
  obtain ⟨o, ho, ho'⟩ := h _ _ h1.2.2
  cases o <;> try exact ho.elim
  obtain ⟨a1, a2, a3, a4, a5, e1, q1⟩ := ho
  exact ⟨_, _, _, q1, h1.1, h1.2.1, hm _ _ _ (fun o' e => by subst e; exact ⟨a1, a2, a3, a4, a5, e1, rfl, rfl, rfl⟩) ho'⟩
 ·exact h1.elim
theorem opW_def (h : DefC C C') (hm : MonoC C') {fs : Bool} {ρ : Opd → V} {σ : Sto} {n lk : Nat} {ai : AI} {Q : V → Sto → Nat → Prop} (hai : fs = true → ai.det = true)
 (h1 : opW T C fs ρ σ n lk ai Q) : ∃ v σ' n', Q v σ' n' ∧ opW T C' fs ρ σ n lk ai (fun v2 σ2 n2 => v2 = v ∧ σ2 = σ' ∧ n2 = n') := by
 cases ai
 case call f args => exact callW_def h hm h1
 case callv g args =>
  simp only [opW] at h1 ⊢
  cases hg : ρ g <;> rw [hg] at h1 <;> try exact h1.elim
  ·exact callW_def h hm h1
  ·exact callW_def h hm h1
  ·obtain ⟨v, σ', n', q, a⟩ := yieldW_def h hm h1.2
   exact ⟨v, σ', n', q, h1.1, a⟩
 case inv x tbl args =>
  simp only [opW] at h1 ⊢
  obtain ⟨h0, h1⟩ := h1
  split at h1
  ·obtain ⟨v, σ', n', q, a⟩ := callW_def h hm h1
   exact ⟨v, σ', n', q, h0, a⟩
  ·exact h1.elim
 case next it =>
  simp only [opW] at h1
  have := hai h1.1
  simp [AI.det] at this
 all_goals
  simp only [opW] at h1 ⊢
  split at h1
  ·exact ⟨_, _, _, h1, rfl, rfl, rfl⟩
  ·exact h1.elim
theorem wpR_def (h : DefC C C') (hm : MonoC C') : ∀ (ops : List AOp) (s : St) (Q : St → Prop), detR ops = true → wpR T C ops s Q → ∃ s', Q s' ∧ wpR T C' ops s (fun s2 => s2 = s')
 | [], s, Q, _, h1 => ⟨s, h1, rfl⟩
 | o :: ops, s, Q, hd, h1 => by
   simp only [detR, List.all_cons, Bool.and_eq_true] at hd
   simp only [wpR] at *
   split at h1 <;> rename_i hw <;> simp only [hw, if_true, if_false, Bool.false_eq_true]
   ·obtain ⟨v, σ', n', a, b⟩ := opW_def h hm (fun _ => hd.1) h1
    obtain ⟨s', q, c⟩ := wpR_def h hm ops _ _ hd.2 a
    exact ⟨s', q, opW_mono (fun _ _ x => x) hm (fun v2 σ2 n2 ⟨e1, e2, e3⟩ => by subst e1; subst e2; subst e3; exact c) b⟩
   ·exact wpR_def h hm ops _ _ hd.2 h1
theorem wpD_def (h : DefC C C') (hm : MonoC C') (n0 : Nat) : ∀ (ops : List DOp) (s : St) (Q : St → Prop), wpD T C n0 ops s Q → ∃ s', Q s' ∧ wpD T C' n0 ops s (fun s2 => s2 = s')
 | [], s, Q, h1 => ⟨s, h1, rfl⟩
 | d :: ops, s, Q, h1 => by
   simp only [wpD] at *
   split at h1 <;> rename_i hw <;> simp only [hw, if_true, if_false, Bool.false_eq_true]
   ·obtain ⟨v, σ', n', a, b⟩ := opW_def h hm (fun h => by cases h) h1
    obtain ⟨s', q, c⟩ := wpD_def h hm n0 ops _ _ a.2
    exact ⟨s', q, opW_mono (fun _ _ x => x) hm (fun v2 σ2 n2 ⟨e1, e2, e3⟩ => by subst e1; subst e2; subst e3; exact ⟨a.1, c⟩) b⟩
   ·exact wpD_def h hm n0 ops _ _ h1
theorem wpS_def (h : DefC C C') (hm : MonoC C') : ∀ (segs : List Seg) (s : St) (Q : St → Prop), (segs.all fun g => detR g.ops) = true → wpS T C segs s Q → ∃ s', Q s' ∧ wpS T C' segs s (fun s2 => s2 = s')
 | [], s, Q, _, h1 => ⟨s, h1, rfl⟩
 | g :: gs, s, Q, hd, h1 => by
   simp only [List.all_cons, Bool.and_eq_true] at hd
   obtain ⟨s1, a, b⟩ := wpD_def h hm s.n g.ds s _ h1
   obtain ⟨s2, c, d⟩ := wpR_def h hm g.ops _ _ hd.1 a
   obtain ⟨s3, e, f⟩ := wpS_def h hm gs s2 _ hd.2 c
   exact ⟨s3, e, wpD_mono (fun _ _ x => x) hm _ _ _ _ _ (fun s1' e1 => by subst e1; exact wpR_mono (fun _ _ x => x) hm _ _ _ _ (fun s2' e2 => by subst e2; exact f) d) b⟩
theorem wpC_def (h : DefC C C') (hm : MonoC C') : ∀ (c : AC) (s : St) (Q : Ex → St → Prop), c.det = true → wpC T C c s Q → ∃ e s', Q e s' ∧ wpC T C' c s (fun e2 s2 => e2 = e ∧ s2 = s')
 | .skip, s, Q, _, h1 => ⟨_, _, h1, rfl, rfl⟩
 | .reg ops, s, Q, hd, h1 => by
   obtain ⟨s', a, b⟩ := wpR_def h hm ops s _ hd h1
   exact ⟨_, _, a, wpR_mono (fun _ _ x => x) hm _ _ _ _ (fun s2 e => ⟨rfl, e⟩) b⟩
 | .regd segs, s, Q, hd, h1 => by
   obtain ⟨s', a, b⟩ := wpS_def h hm segs s _ hd h1
   exact ⟨_, _, a, wpS_mono (fun _ _ x => x) hm _ _ _ _ (fun s2 e => ⟨rfl, e⟩) b⟩
 | .seq a b, s, Q, hd, h1 => by
   simp only [AC.det, Bool.and_eq_true] at hd
   simp only [wpC] at h1 ⊢
   obtain ⟨e, s', p, q⟩ := wpC_def h hm a s _ hd.1 h1
   cases e <;> simp only [thenW] at p
   ·obtain ⟨e2, s2, p2, q2⟩ := wpC_def h hm b s' _ hd.2 p
    exact ⟨e2, s2, p2, wpC_mono (fun _ _ x => x) hm _ _ _ _ (fun e3 s3 ⟨h1, h2⟩ => by subst h1; subst h2; exact q2) q⟩
   ·exact ⟨_, _, p, wpC_mono (fun _ _ x => x) hm _ _ _ _ (fun e3 s3 ⟨h1, h2⟩ => by subst h1; subst h2; exact ⟨rfl, rfl⟩) q⟩
   ·exact ⟨_, _, p, wpC_mono (fun _ _ x => x) hm _ _ _ _ (fun e3 s3 ⟨h1, h2⟩ => by subst h1; subst h2; exact ⟨rfl, rfl⟩) q⟩
 | .cond x a b, s, Q, hd, h1 => by
   simp only [AC.det, Bool.and_eq_true] at hd
   simp only [wpC] at h1 ⊢
   cases hx : s.val x <;> rw [hx] at h1 <;> try exact h1.elim
   rename_i bb
   cases bb
   ·exact wpC_def h hm b s _ hd.2 h1
   ·exact wpC_def h hm a s _ hd.1 h1
 | .block id c, s, Q, hd, h1 => by
   simp only [wpC] at h1 ⊢
   obtain ⟨e, s', p, q⟩ := wpC_def h hm c s _ hd h1
   cases e <;> simp only [blockW] at p
   ·exact ⟨_, _, p, wpC_mono (fun _ _ x => x) hm _ _ _ _ (fun e3 s3 ⟨h1, h2⟩ => by subst h1; subst h2; exact ⟨rfl, rfl⟩) q⟩
   ·split at p <;> rename_i hi
    ·exact ⟨_, _, p, wpC_mono (fun _ _ x => x) hm _ _ _ _ (fun e3 s3 ⟨h1, h2⟩ => by subst h1; subst h2; simp only [blockW, hi, if_true]; exact ⟨trivial, trivial⟩) q⟩
    ·exact ⟨_, _, p, wpC_mono (fun _ _ x => x) hm _ _ _ _ (fun e3 s3 ⟨h1, h2⟩ => by subst h1; subst h2; simp only [blockW, hi, if_false]; exact ⟨trivial, trivial⟩) q⟩
   ·exact ⟨_, _, p, wpC_mono (fun _ _ x => x) hm _ _ _ _ (fun e3 s3 ⟨h1, h2⟩ => by subst h1; subst h2; exact ⟨rfl, rfl⟩) q⟩
 | .loop c, s, Q, hd, h1 => by
   simp only [wpC] at h1 ⊢
   refine h1 (fun s => ∃ e s', Q e s' ∧ loopW (wpC T C' c) s (fun e2 s2 => e2 = e ∧ s2 = s')) (fun s hs => ?_)
   obtain ⟨e, s', p, q⟩ := wpC_def h hm c s _ hd hs
   have hB := fun s Q Q' hq hh => wpC_mono (T := T) (fun _ _ x => x) hm c s Q Q' hq hh
   cases e <;> simp only [thenW] at p
   ·obtain ⟨e2, s2, p2, q2⟩ := p
    exact ⟨e2, s2, p2, loopW_step hB (hB _ _ _ (fun e3 s3 ⟨h1, h2⟩ => by subst h1; subst h2; exact q2) q)⟩
   ·exact ⟨_, _, p, loopW_step hB (hB _ _ _ (fun e3 s3 ⟨h1, h2⟩ => by subst h1; subst h2; exact ⟨rfl, rfl⟩) q)⟩
   ·exact ⟨_, _, p, loopW_step hB (hB _ _ _ (fun e3 s3 ⟨h1, h2⟩ => by subst h1; subst h2; exact ⟨rfl, rfl⟩) q)⟩
 | .rangeF g ps assign body, s, Q, _, h1 => by
   simp only [wpC, rangeW] at h1 ⊢
   cases hg : s.val g <;> rw [hg] at h1 <;> try exact h1.elim
   obtain ⟨o, ho, ho'⟩ := h _ _ h1.2
   cases o <;> try exact ho.elim
   simp only at ho
   split at ho
   ·rename_i hl
    exact ⟨_, _, ho.2, h1.1, hm _ _ _ (fun o' e => by subst e; simp only [hl]; exact ⟨ho.1, trivial, trivial⟩) ho'⟩
   ·exact ho.elim
 | .exit id, s, Q, _, h1 => ⟨_, _, h1, rfl, rfl⟩
 | .ret, s, Q, _, h1 => ⟨_, _, h1, rfl, rfl⟩
theorem jobW_def (h : DefC C C') (hm : MonoC C') {j : Job} {Q : Out → Prop} (hd : j.det T) (h1 : jobW T C j Q) : ∃ o, Q o ∧ jobW T C' j (fun o' => o' = o) := by
 cases j <;> simp only [jobW, Job.det] at h1 hd ⊢
 ·obtain ⟨fn, a1, a2, a3, a4⟩ := h1
  obtain ⟨e, s, ⟨p1, v, p2, r, p3, p4⟩, q⟩ := wpC_def h hm _ _ _ (hd _ a1) a4
  exact ⟨_, p4, fn, a1, a2, a3, wpC_mono (fun _ _ x => x) hm _ _ _ _ (fun e3 s3 ⟨h1, h2⟩ => by subst h1; subst h2; exact ⟨p1, v, p2, r, p3, rfl⟩) q⟩
 ·obtain ⟨fn, a1, a2, a4⟩ := h1
  obtain ⟨e, s, ⟨p1, v, p2, p4⟩, q⟩ := wpC_def h hm _ _ _ (hd _ a1) a4
  exact ⟨_, p4, fn, a1, a2, wpC_mono (fun _ _ x => x) hm _ _ _ _ (fun e3 s3 ⟨h1, h2⟩ => by subst h1; subst h2; exact ⟨p1, v, p2, rfl⟩) q⟩
 ·obtain ⟨e, s, ⟨p1, x1, x2, x3, x4, x5, p2, p3⟩, q⟩ := wpC_def h hm _ _ _ hd.1 h1
  obtain ⟨e', s', ⟨p5, p4⟩, q'⟩ := wpC_def h hm _ _ _ hd.2 p3
  exact ⟨_, p4, wpC_mono (fun _ _ x => x) hm _ _ _ _ (fun e3 s3 ⟨h1, h2⟩ => by
   subst h1; subst h2
   exact ⟨p1, x1, x2, x3, x4, x5, p2, wpC_mono (fun _ _ x => x) hm _ _ _ _ (fun e4 s4 ⟨h1, h2⟩ => by subst h1; subst h2; exact ⟨p5, rfl⟩) q'⟩) q⟩
theorem run_def : DefC (run T) (run T) := fun j Q h => by
 refine h (fun j Q => ∃ o, Q o ∧ run T j (fun o' => o' = o)) (fun j Q Q' hq ⟨o, a, b⟩ => ⟨o, hq o a, b⟩) (fun j Q hh => ?_)
 obtain ⟨o, a, b⟩ := hh
 exact ⟨o, a, run_stepD ⟨o, rfl, jobW_mono (fun j Q ⟨o', x, y⟩ => run_mono _ _ _ (fun o2 e => by rw [e]; exact x) y) run_mono (fun _ e => e) b⟩⟩
theorem run_step {j : Job} {Q : Out → Prop} (hd : j.det T) (h : jobW T (run T) j Q) : run T j Q := by
 obtain ⟨o, a, b⟩ := jobW_def run_def run_mono hd h
 exact run_stepD ⟨o, a, b⟩
end
end Go.Q
end
