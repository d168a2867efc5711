/-
  Marks of slices inside slices. Plain, no condition.
-/
import Derived.Test.YtfmdddoidjhipaaGreatDoorPlM
namespace Go.Proofs.YtfmdddoidjhipaaGreatDoor
open Go Go.Proofs.YtfmdddoidjhipaaGreatDoor.Eng
set_option linter.unusedVariables false
set_option linter.unusedSimpArgs false
end Go.Proofs.YtfmdddoidjhipaaGreatDoor
