/-
  Sums of polygons, their areas. Plain, no condition.
-/
import Derived.Test.YtfmdddoidjhipaaGreatDoorPlHl
import Derived.Test.YtfmdddoidjhipaaGreatDoorPlL
import Derived.Test.YtfmdddoidjhipaaGreatDoorPlMs
namespace Go.Proofs.YtfmdddoidjhipaaGreatDoor
open Go Go.Proofs.YtfmdddoidjhipaaGreatDoor.Eng Hull
set_option linter.unusedVariables false
set_option linter.unusedSimpArgs false
end Go.Proofs.YtfmdddoidjhipaaGreatDoor
