/-
  Plain: vectors added and scaled. No condition.
-/
import Derived.Test.YtfmdddoidjhipaaGreatDoorPlM
namespace Go.Proofs.YtfmdddoidjhipaaGreatDoor
open Go Go.Proofs.YtfmdddoidjhipaaGreatDoor.Eng
set_option linter.unusedVariables false
set_option linter.unusedSimpArgs false
section
variable {α : Type} (zs : List α)
end
end Go.Proofs.YtfmdddoidjhipaaGreatDoor
