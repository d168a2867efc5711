/-
  Dual polygons and the number twelve. Plain, no condition.
-/
import Derived.Test.YtfmdddoidjhipaaGreatDoorPlDt
import Derived.Test.YtfmdddoidjhipaaGreatDoorPlSm
import Derived.Test.YtfmdddoidjhipaaGreatDoorPlHv
namespace Go.Proofs.YtfmdddoidjhipaaGreatDoor
open Go Go.Proofs.YtfmdddoidjhipaaGreatDoor.Eng Hull
set_option linter.unusedVariables false
set_option linter.unusedSimpArgs false
end Go.Proofs.YtfmdddoidjhipaaGreatDoor
