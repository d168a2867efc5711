/-
  Mirrored polygons. Plain, no condition.
-/
import Derived.Test.YtfmdddoidjhipaaGreatDoorPlSm
import Derived.Test.YtfmdddoidjhipaaGreatDoorPlK
import Derived.Test.YtfmdddoidjhipaaGreatDoorPlY
namespace Go.Proofs.YtfmdddoidjhipaaGreatDoor
open Go Go.Proofs.YtfmdddoidjhipaaGreatDoor.Eng Hull
set_option linter.unusedVariables false
set_option linter.unusedSimpArgs false
end Go.Proofs.YtfmdddoidjhipaaGreatDoor
