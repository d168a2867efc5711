/-
  Marks of slices inside slices. Plain, no condition.
-/
import Derived.Test.YtednadbkcpcmfaaPlM
namespace Go.Proofs.Ytednadbkcpcmfaa
open Go Go.Proofs.Ytednadbkcpcmfaa.Eng
set_option linter.unusedVariables false
set_option linter.unusedSimpArgs false
end Go.Proofs.Ytednadbkcpcmfaa
