/- The layer does something. -/
import Derived.Test.YtaigdfomoplchaaQvExecS
import Derived.Test.YtaigdfomoplchaaQvFz
import Derived.Test.YtaigdfomoplchaaS08Tab
set_option linter.unusedSimpArgs false
set_option linter.unusedVariables false
namespace Go.Q.S08
open Go.Q

def isTrue' : Option Out → Bool
  | some (.val (.bool true)) => true
  | _ => false
theorem isTrue_eq {o : Option Out} (h : isTrue' o = true) : o = some (.val (.bool true)) := by
  unfold isTrue' at h
  split at h
  · rfl
  · cases h

theorem r9 : res T 9 [] = some (.bool true) := by
  have h : isTrue' (exJob T 60 (.pure 9 [])) = true := by decide +kernel
  exact run_res (exJob_sound 60 _ _ (isTrue_eq h))
theorem f9 (fs : Bool) (σ : Sto) (n lk : Nat) : callE T fs 9 [] σ n lk = some (.bool true, σ, n) := callE_tr (by decide) r9 rfl rfl fs σ n lk
end Go.Q.S08
