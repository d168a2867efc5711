/-
  Corner cones; smooth corners. Plain, no condition.
-/
import Derived.Test.YtfmdddoidjhipaaGreatDoorPlX
import Derived.Test.YtfmdddoidjhipaaGreatDoorPlM
namespace Go.Proofs.YtfmdddoidjhipaaGreatDoor
open Go Go.Proofs.YtfmdddoidjhipaaGreatDoor.Eng
open Hull (Pt tn lx at_ at_some at_mem)
set_option linter.unusedVariables false
set_option linter.unusedSimpArgs false
end Go.Proofs.YtfmdddoidjhipaaGreatDoor
