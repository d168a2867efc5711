/-
  Reflexive polygons: the sides have height one. Plain, no condition.
-/
import Derived.Test.YtfmdddoidjhipaaGreatDoorPlHl
namespace Go.Proofs.YtfmdddoidjhipaaGreatDoor
open Go Go.Proofs.YtfmdddoidjhipaaGreatDoor.Eng Hull
set_option linter.unusedVariables false
set_option linter.unusedSimpArgs false
end Go.Proofs.YtfmdddoidjhipaaGreatDoor
