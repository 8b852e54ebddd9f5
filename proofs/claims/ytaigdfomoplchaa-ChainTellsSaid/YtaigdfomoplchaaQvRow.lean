/- A statement's row, out of a call that returns true. -/
import Derived.Test.YtaigdfomoplchaaQvLaw
import Derived.Test.YtaigdfomoplchaaQvSlv
set_option linter.unusedSimpArgs false
set_option linter.unusedVariables false
set_option linter.unusedSectionVars false
namespace Go.Q

/-- Another name for what is written down. -/
def Enc.map {P : Program} {t : TypeId} {α β : Type} (E : Enc P t α) (g : α → β) (val : β → V) (ok : β → Prop) (hv : ∀ a, E.val a = val (g a)) (ho : ∀ a, E.ok a → ok (g a)) : Enc P t β where
  val := val
  ok := ok
  opens := fun h hw => by
    obtain ⟨a, h1, h2⟩ := E.opens h hw
    exact ⟨g a, ho a h1, by rw [← hv]; exact h2⟩

theorem weights_at {H : Type} {P : Program} {ts : List TypeId} {ds : List (DataW H)} {j : Nat} {t : TypeId} {d : DataW H}
    (hsz : (DataW.weightsEach P ts ds).all (· ≤ reachBytes) = true) (ht : ts[j]? = some t) (hd : ds[j]? = some d) : ∀ n ∈ d.weights P t, n ≤ reachBytes := fun n hn => by
  have := List.all_eq_true.1 hsz n (DataW.weights_mem_each ht hd n hn)
  simpa using this

theorem reach_eq : reachBytes = 140737488351232 := rfl

end Go.Q
