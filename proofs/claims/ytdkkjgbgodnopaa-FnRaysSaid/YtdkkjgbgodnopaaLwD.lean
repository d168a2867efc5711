/-
  Plain: the law DualCone. No condition.
-/
import Derived.Test.YtdkkjgbgodnopaaPlM
namespace Go.Proofs.Ytdkkjgbgodnopaa
open Go Go.Proofs.Ytdkkjgbgodnopaa.Eng
set_option linter.unusedVariables false
set_option linter.unusedSimpArgs false

end Go.Proofs.Ytdkkjgbgodnopaa
