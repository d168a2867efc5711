/-
  Halves of a polygon's sides. Plain, no condition.
-/
import Derived.Test.YtednadbkcpcmfaaPlMs
import Derived.Test.YtednadbkcpcmfaaPlO
import Derived.Test.YtednadbkcpcmfaaPlI
import Derived.Test.YtednadbkcpcmfaaPlY
namespace Go.Proofs.Ytednadbkcpcmfaa
open Go Go.Proofs.Ytednadbkcpcmfaa.Eng Hull
set_option linter.unusedVariables false
set_option linter.unusedSimpArgs false
end Go.Proofs.Ytednadbkcpcmfaa
