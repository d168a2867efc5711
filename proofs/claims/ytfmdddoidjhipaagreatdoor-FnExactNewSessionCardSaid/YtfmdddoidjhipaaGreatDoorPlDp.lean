/-
  Plain: polygons, described. No condition.
-/
import Derived.Test.YtfmdddoidjhipaaGreatDoorPlSt
import Derived.Test.YtfmdddoidjhipaaGreatDoorPlDu
import Derived.Test.YtfmdddoidjhipaaGreatDoorPlMi
namespace Go.Proofs.YtfmdddoidjhipaaGreatDoor
open Go Go.Proofs.YtfmdddoidjhipaaGreatDoor.Eng Hull
set_option linter.unusedVariables false
set_option linter.unusedSimpArgs false
end Go.Proofs.YtfmdddoidjhipaaGreatDoor
