/-
  Marks of slices inside slices. Plain, no condition.
-/
import Derived.Test.YtilggmmanhinbaaPlM
namespace Go.Proofs.Ytilggmmanhinbaa
open Go Go.Proofs.Ytilggmmanhinbaa.Eng
set_option linter.unusedVariables false
set_option linter.unusedSimpArgs false
end Go.Proofs.Ytilggmmanhinbaa
