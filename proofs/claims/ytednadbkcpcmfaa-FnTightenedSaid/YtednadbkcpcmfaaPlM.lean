/-
  Plain: marks and cones. No condition.
-/
import Derived.Test.YtednadbkcpcmfaaPl4
namespace Go.Proofs.Ytednadbkcpcmfaa
open Go Go.Proofs.Ytednadbkcpcmfaa.Eng
set_option linter.unusedVariables false
set_option linter.unusedSimpArgs false
end Go.Proofs.Ytednadbkcpcmfaa
