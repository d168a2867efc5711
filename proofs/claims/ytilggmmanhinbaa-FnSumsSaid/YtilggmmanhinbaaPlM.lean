/-
  Plain: marks and cones. No condition.
-/
import Derived.Test.YtilggmmanhinbaaPl4
namespace Go.Proofs.Ytilggmmanhinbaa
open Go Go.Proofs.Ytilggmmanhinbaa.Eng
set_option linter.unusedVariables false
set_option linter.unusedSimpArgs false
end Go.Proofs.Ytilggmmanhinbaa
