/-
  Plain: marks and cones. No condition.
-/
import Derived.Test.YtampigdidkhigaaPl4
namespace Go.Proofs.Ytampigdidkhigaa
open Go Go.Proofs.Ytampigdidkhigaa.Eng
set_option linter.unusedVariables false
set_option linter.unusedSimpArgs false
end Go.Proofs.Ytampigdidkhigaa
