/-
  Halves of a polygon's sides. Plain, no condition.
-/
import Derived.Test.YtfmdddoidjhipaaGreatDoorPlMs
import Derived.Test.YtfmdddoidjhipaaGreatDoorPlO
import Derived.Test.YtfmdddoidjhipaaGreatDoorPlI
import Derived.Test.YtfmdddoidjhipaaGreatDoorPlY
namespace Go.Proofs.YtfmdddoidjhipaaGreatDoor
open Go Go.Proofs.YtfmdddoidjhipaaGreatDoor.Eng Hull
set_option linter.unusedVariables false
set_option linter.unusedSimpArgs false
end Go.Proofs.YtfmdddoidjhipaaGreatDoor
