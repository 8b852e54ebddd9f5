/- A law's call, out of the evaluator's word. -/
import Derived.Test.YtaigdfomoplchaaQvEnc
set_option linter.unusedSimpArgs false
set_option linter.unusedVariables false
set_option linter.unusedSectionVars false
namespace Go.Q

section
variable {P : Program} {T : Tab}

theorem law_calls (hmix : P.follows .mixedOrders = true) (hT : TabOf P T) {f : Nat} {vs : List V} {us : Array Value} {w : World} (hs : us.size = vs.length)
    (hr : ∀ (i : Nat) (e : V) (u : Value), vs[i]? = some e → us[i]? = some u → Rep w (fun _ => False) (fun _ => 0) 0 e u)
    (h : run T (.pure f vs) (fun o => o = .val (.bool true))) : Calls P f us w fun e w' => e = .returned (.bool true) ∧ Go.RowKit.Below w.heap.size w w' := by
  letI := lnk P T
  obtain ⟨-, h2⟩ := sound hmix hT h
  refine callsIn_wide.1 ((h2 w (fun _ => False) us (fun _ h => h.elim) ⟨hs, hr⟩).mono fun e w' hh => ?_)
  obtain ⟨u, r, rfl, hq, X1, ι1, σ1, n1, v, hw1, hr1, hback, he⟩ := hh
  cases hq
  have hv : v = .bool true := by
    have key : frz σ1 DEEP v = some (.bool true) ∨ giv σ1 DEEP v = some (.bool true) := by
      unfold back at hback
      split at hback
      · exact .inr hback.1
      · exact .inl hback
    rcases key with key | key
    · cases v <;> simp [frz, DEEP, Option.bind_eq_some_iff] at key ⊢ <;> exact key
    · cases v
      case fn f cs => cases cs <;> simp [giv, DEEP] at key
      case ref id off len sz =>
        simp only [giv, DEEP] at key
        split at key
        · split at key
          · simp at key
          · cases key
        · cases key
      all_goals first | (simp [giv, DEEP] at key; done) | (simp [giv, DEEP] at key ⊢; exact key)
  subst hv
  cases hr1
  refine ⟨rfl, he.os, he.tape, he.output, he.size, fun k hk => he.heap k hk (fun ⟨id, _, h1, _⟩ => h1 rfl)⟩

/-- A value of one cell. -/
theorem rep_one {t : TypeId} {α : Type} (E : Enc P t α) {H : Type} {enc : TypeId × Value → H} {W : World} {held : Bool} {v : Value} {d : DataW H} {p : List MemPlace}
    (h : DataW.Trod enc P W 0 (fun _ => true) held t v d p) (hwt : ∀ n ∈ d.weights P t, n ≤ reachBytes) (hv : v.cells = #[v]) (h1 : ∀ a, (E.val a).one = true) :
    ∃ a, E.ok a ∧ Rep W (fun _ => False) (fun _ => 0) 0 (E.val a) v := by
  letI : Link := ⟨fun _ _ _ => False⟩
  obtain ⟨fuel, hf⟩ := h
  obtain ⟨a, hok, -, hc, -⟩ := E.opens hf hwt
  refine ⟨a, hok, hc 0 (E.val a) v ?_ ?_⟩
  · rw [one_cells (h1 a)]; rfl
  · rw [hv]; rfl

end
end Go.Q
