/- What the evaluator says of a call on trees, the machine does. -/
import Derived.Test.YtaigdfomoplchaaQvAll
import Derived.Test.YtaigdfomoplchaaQvDrawn
set_option linter.unusedSimpArgs false
set_option linter.unusedVariables false
set_option linter.unusedSectionVars false
namespace Go.Q

theorem sound {P : Program} {T : Tab} (hmix : P.follows .mixedOrders = true) (hT : TabOf P T) {j : Job} {Q : Out → Prop} (h : run T j Q) : @sndC (lnk P T) P T j Q :=
  letI := lnk P T
  run_sound (draw_ok hmix) hmix hT h

end Go.Q
#print axioms Go.Q.sound
