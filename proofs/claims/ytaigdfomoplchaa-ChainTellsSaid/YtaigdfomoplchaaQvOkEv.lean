/- An operation speaks of no objects but those of its operands and store, and those that it lays. -/
import Derived.Test.YtaigdfomoplchaaQvOk
import Derived.Test.YtaigdfomoplchaaQvCode
set_option linter.unusedSimpArgs false
set_option linter.unusedVariables false
set_option linter.unusedSectionVars false
namespace Go.Q
variable [Link]

/-- The zero values that an operation holds. -/
def AI.zeros : AI → List V
  | .alloc e => [e]
  | .build z _ => z
  | .mksl _ _ e _ => [e]
  | _ => []

section
variable {K : Nat → Prop} {ρ : Opd → V} {σ σ' : Sto} {n n' lk : Nat}

/-- No objects but old ones and new ones. -/
def Dom (σ σ' : Sto) (n n' : Nat) : Prop := ∀ id, σ' id ≠ none → σ id ≠ none ∨ (n ≤ id ∧ id < n')

theorem Dom.refl : Dom σ σ n n' := fun _ h => .inl h

theorem dom_upd {id : Nat} {o : Ob} (h : σ id ≠ none) : Dom σ (upd σ id (some o)) n n' := fun id' hh => by
  by_cases e : id' = id
  · exact .inl (e ▸ h)
  · left; simpa [upd, e] using hh

theorem dom_new {o : Ob} : Dom σ (upd σ n (some o)) n (n + 1) := fun id' hh => by
  by_cases e : id' = n
  · right; omega
  · left; simpa [upd, e] using hh

theorem dom_mov {id : Nat} {o : Ob} : Dom σ (upd (upd σ id none) n (some o)) n (n + 1) := fun id' hh => by
  by_cases e : id' = n
  · right; omega
  · left
    by_cases e' : id' = id
    · subst e'
      exfalso
      apply hh
      simp [upd, e]
    · simpa [upd, e, e'] using hh

def Fin (K : Nat → Prop) (σ : Sto) (n : Nat) (r : Option (V × Sto × Nat)) : Prop := ∀ v σ' n', r = some (v, σ', n') → Ok (More K n n') v ∧ OkS (More K n n') σ' ∧ Dom σ σ' n n'

theorem fin_same (hs : OkS K σ) {o : Option V} (h : ∀ v, o = some v → Ok K v) : Fin K σ n (o.map fun v => (v, σ, n)) := by
  intro v σ' n' he
  simp only [Option.map_eq_some_iff, Prod.mk.injEq] at he
  obtain ⟨v', h1, rfl, rfl, rfl⟩ := he
  exact ⟨(h v' h1).mono more_sub, hs.mono more_sub, Dom.refl⟩

theorem fin_one (hs : OkS K σ) {v : V} (h : Ok K v) : Fin K σ n (some (v, σ, n)) := by
  intro v' σ' n' he
  simp only [Option.some.injEq, Prod.mk.injEq] at he
  obtain ⟨rfl, rfl, rfl⟩ := he
  exact ⟨h.mono more_sub, hs.mono more_sub, Dom.refl⟩

theorem fin_none : Fin K σ n none := fun v σ' n' he => by cases he

theorem fin_new {v : V} {σ' : Sto} (h : Ok (More K n (n + 1)) v) (hs : OkS (More K n (n + 1)) σ') (hd : Dom σ σ' n (n + 1) := by first | exact dom_new | exact dom_mov) : Fin K σ n (some (v, σ', n + 1)) := by
  intro v' σ'' n' he
  simp only [Option.some.injEq, Prod.mk.injEq] at he
  obtain ⟨rfl, rfl, rfl⟩ := he
  exact ⟨h, hs, hd⟩

theorem fin_bind {α : Type} {o : Option α} {f : α → Option (V × Sto × Nat)} (h : ∀ a, o = some a → Fin K σ n (f a)) : Fin K σ n (o.bind f) := by
  intro v σ' n' he
  simp only [Option.bind_eq_some_iff] at he
  obtain ⟨a, ha, he⟩ := he
  exact h a ha v σ' n' he

theorem more_new : More K n (n + 1) n := .inr ⟨Nat.le_refl _, by omega⟩

theorem ev_ok {ai : AI} (hρ : ∀ x ∈ ai.opds, Ok K (ρ x)) (hz : ∀ e ∈ ai.zeros, Ok (fun _ => False) e) (hs : OkS K σ) : Fin K σ n (ev ρ σ n lk ai) := by
  cases ai <;> simp only [AI.opds, AI.zeros] at hρ hz <;> simp only [ev]
  case mov x => exact fin_one hs (hρ x (by simp))
  case pick c a b =>
    split
    · rename_i t _
      cases t
      · exact fin_one hs (hρ b (by simp))
      · exact fin_one hs (hρ a (by simp))
    · exact fin_none
  case alloc e =>
    refine fin_new (.ptr _ _ _ _ more_new) ((hs.mono more_sub).upd_row (fun i x hx => ?_))
    cases i with
    | zero => simp at hx; subst hx; exact (hz e (by simp)).none
    | succ i => simp at hx
  case box x =>
    split
    · refine fin_new (.ptr _ _ _ _ more_new) ((hs.mono more_sub).upd_row (fun i y hy => ?_))
      cases i with
      | zero => simp at hy; subst hy; exact (hρ x (by simp)).mono more_sub
      | succ i => simp at hy
    · exact fin_none
  case build z ps =>
    intro v σ' n' he
    simp only [Option.map_eq_some_iff, Prod.mk.injEq] at he
    obtain ⟨cs, hcs, rfl, rfl, rfl⟩ := he
    refine ⟨(Ok.agg cs (ok_parts (K := K) ps z cs (fun p hp => hρ _ (List.mem_map.2 ⟨p, hp, rfl⟩)) (fun j e he => (hz e (List.mem_of_getElem? he)).none) hcs)).mono more_sub, hs.mono more_sub, Dom.refl⟩
  case lit sz es =>
    split
    · refine fin_new (.ref _ _ _ _ more_new) ((hs.mono more_sub).upd_row (fun i y hy => ?_))
      rw [List.getElem?_map, Option.map_eq_some_iff] at hy
      obtain ⟨x, hx, rfl⟩ := hy
      exact (hρ x (List.mem_of_getElem? hx)).mono more_sub
    · exact fin_none
  case load b s x =>
    have hx := hρ x (by simp)
    generalize ρ x = y at hx
    split
    · refine fin_bind (fun e he => fin_same hs (fun v hv => ?_))
      obtain ⟨ys, hrow, hget⟩ := rowAt_spec he
      exact ok_loadC (ok_drop (Ok.cells (hs.1 _ _ _ hrow _ _ hget))) hv
    · cases hx with
      | box cs hb => exact fin_same hs (fun v hv => ok_loadC (fun j e he => (hb j e he).none) hv)
    · exact fin_none
  case store s x v =>
    have hv := hρ v (by simp)
    split
    · split
      · split
        · rename_i hrow _ _ hget
          split
          · intro v' σ' n' he
            simp only [Option.some.injEq, Prod.mk.injEq] at he
            obtain ⟨rfl, rfl, rfl⟩ := he
            refine ⟨.undef, (hs.upd_row (fun i y hy => ?_)).mono more_sub, dom_upd (by rw [hrow]; simp)⟩
            rw [List.getElem?_set] at hy
            split at hy
            · split at hy
              · simp only [Option.some.injEq] at hy; subst hy
                unfold spliceC
                split
                · refine .agg _ (ok_append (ok_append (ok_take ?_) (Ok.cells hv)) (ok_drop ?_)) <;>
                    (have := hs.1 _ _ _ hrow _ _ hget; exact Ok.cells this)
                · split
                  · rename_i c hc
                    exact Ok.cells hv 0 c (by rw [hc]; rfl)
                  · exact .agg _ (Ok.cells hv)
              · cases hy
            · exact hs.1 _ _ _ hrow i y hy
          · exact fin_none
        · exact fin_none
      · exact fin_none
    · exact fin_none
  case nilck x =>
    have hx := hρ x (by simp)
    generalize ρ x = y at hx
    split <;> first | exact fin_one hs hx | exact fin_none
  case bin op x y => exact fin_same hs (fun v hv => ok_binV hv)
  case eqB neg x y => split <;> first | exact fin_one hs (.bool _) | exact fin_none
  case eqA neg ks x y =>
    split
    · intro v σ' n' he
      simp only [Option.map_eq_some_iff, Prod.mk.injEq] at he
      obtain ⟨b, _, rfl, rfl, rfl⟩ := he
      exact ⟨.bool _, hs.mono more_sub, Dom.refl⟩
    · exact fin_none
  case eqN neg x => split <;> first | exact fin_one hs (.bool _) | exact fin_none
  case eqF neg x => split <;> first | exact fin_one hs (.bool _) | exact fin_none
  case un op x => exact fin_same hs (fun v hv => ok_unV hv)
  case conv k x => split <;> first | exact fin_one hs (.int _ _) | exact fin_none
  case mkfn f es =>
    refine fin_one hs (.fn _ _ (fun i e he => ?_))
    rw [List.getElem?_map, Option.map_eq_some_iff] at he
    obtain ⟨x, hx, rfl⟩ := he
    exact hρ x (List.mem_of_getElem? hx)
  case mksl sz bytes e len =>
    split
    · split
      · refine fin_new (.ref _ _ _ _ more_new) ((hs.mono more_sub).upd_row (fun i y hy => ?_))
        rw [List.getElem?_replicate] at hy
        split at hy
        · simp only [Option.some.injEq] at hy; subst hy; exact (hz e (by simp)).none
        · cases hy
      · exact fin_none
    · exact fin_none
  case slice sz x lo hi =>
    have hx := hρ x (by simp)
    generalize ρ x = y at hx
    split
    · refine fin_bind (fun h _ => fin_bind (fun l _ => ?_))
      split
      · exact fin_one hs .nilS
      · exact fin_none
    · refine fin_bind (fun h _ => fin_bind (fun l _ => ?_))
      split
      · cases hx with
        | sl _ _ hx => exact fin_one hs (.sl _ _ (ok_drop (ok_take hx)))
      · exact fin_none
    · refine fin_bind (fun h _ => fin_bind (fun l _ => ?_))
      split
      · cases hx with
        | ref _ _ _ _ hx => exact fin_one hs (.ref _ _ _ _ hx)
      · exact fin_none
    · exact fin_none
  case sliceS x lo hi =>
    split
    · exact fin_bind (fun h _ => fin_bind (fun l _ => fin_one hs (.str _)))
    · exact fin_none
  case faddr x off =>
    have hx := hρ x (by simp)
    generalize ρ x = y at hx
    split
    · cases hx with
      | ptr _ _ _ _ hx => exact fin_one hs (.ptr _ _ _ _ hx)
    · cases hx with
      | box _ hx => exact fin_one hs (.box _ (ok_drop hx))
    · exact fin_none
  case fld b s off x =>
    have hx := hρ x (by simp)
    generalize ρ x = y at hx
    split
    · cases hx with
      | agg _ hx => exact fin_same hs (fun v hv => ok_loadC (ok_drop hx) hv)
    · exact fin_none
  case iaddr sz x i =>
    have hx := hρ x (by simp)
    generalize ρ x = y at hx
    split
    · split
      · intro v σ' n' he
        simp only [Option.map_eq_some_iff, Prod.mk.injEq] at he
        obtain ⟨e, hget, rfl, rfl, rfl⟩ := he
        cases hx with
        | sl _ _ hx => exact ⟨.box _ (Ok.cells (hx _ _ hget)), hs.mono more_sub, Dom.refl⟩
      · exact fin_none
    · split
      · cases hx with
        | ref _ _ _ _ hx => exact fin_one hs (.ptr _ _ _ _ hx)
      · exact fin_none
    · exact fin_none
  case iaddrA m es x i =>
    have hx := hρ x (by simp)
    generalize ρ x = y at hx
    split
    · split
      · cases hx with
        | ptr _ _ _ _ hx => exact fin_one hs (.ptr _ _ _ _ hx)
      · exact fin_none
    · split
      · cases hx with
        | box _ hx => exact fin_one hs (.box _ (ok_drop hx))
      · exact fin_none
    · exact fin_none
  case idxA b m es x i =>
    have hx := hρ x (by simp)
    generalize ρ x = y at hx
    split
    · split
      · cases hx with
        | agg _ hx => exact fin_same hs (fun v hv => ok_loadC (ok_drop hx) hv)
      · exact fin_none
    · exact fin_none
  case idxS x i =>
    split
    · split
      · intro v σ' n' he
        simp only [Option.map_eq_some_iff, Prod.mk.injEq] at he
        obtain ⟨e, hget, rfl, rfl, rfl⟩ := he
        exact ⟨.int _ _, hs.mono more_sub, Dom.refl⟩
      · exact fin_none
    · exact fin_none
  case ext x i =>
    have hx := hρ x (by simp)
    generalize ρ x = y at hx
    split
    · cases hx with
      | tup _ hx => exact fin_same hs (fun v hv => hx _ _ hv)
    · exact fin_none
  case len x =>
    intro v σ' n' he
    simp only [Option.map_eq_some_iff, Prod.mk.injEq] at he
    obtain ⟨l, _, rfl, rfl, rfl⟩ := he
    exact ⟨.int _ _, hs.mono more_sub, Dom.refl⟩
  case lenS x => split <;> first | exact fin_one hs (.int _ _) | exact fin_none
  case min es =>
    split
    · rename_i x ys hxs
      refine fin_same hs (fun v hv => ok_foldlM (fun a b c hc => ?_) ys x v ?_ hv)
      · unfold minV at hc; split at hc
        · simp only [Option.some.injEq] at hc; subst hc; exact .int _ _
        · cases hc
      · have : x ∈ es.map ρ := by rw [hxs]; simp
        obtain ⟨y, hy, rfl⟩ := List.mem_map.1 this
        exact hρ y hy
    · exact fin_none
  case max es =>
    split
    · rename_i x ys hxs
      refine fin_same hs (fun v hv => ok_foldlM (fun a b c hc => ?_) ys x v ?_ hv)
      · unfold maxV at hc; split at hc
        · simp only [Option.some.injEq] at hc; subst hc; exact .int _ _
        · cases hc
      · have : x ∈ es.map ρ := by rw [hxs]; simp
        obtain ⟨y, hy, rfl⟩ := List.mem_map.1 this
        exact hρ y hy
    · exact fin_none
  case append sz bytes x y =>
    have hy := hρ y (by simp)
    split
    · exact fin_none
    · rename_i ys hys
      have hel := ok_elems hs hy hys
      split
      · split
        · exact fin_one hs .nilS
        · split
          · exact fin_new (.ref _ _ _ _ more_new) ((hs.mono more_sub).upd_row (fun i z hz => (hel i z hz).mono more_sub))
          · exact fin_none
      · split
        · rename_i hrow
          split
          · exact fin_new (.ref _ _ _ _ more_new) (((hs.upd_none).mono more_sub).upd_row (ok_append (fun i z hz => (hs.1 _ _ _ hrow i z hz).mono more_sub) (fun i z hz => (hel i z hz).mono more_sub)))
          · exact fin_none
        · exact fin_none
      · exact fin_none
  case mkif t x => exact fin_one hs (.iface _ _ (hρ x (by simp)))
  case call => exact fin_none
  case callv => exact fin_none

end
end Go.Q
