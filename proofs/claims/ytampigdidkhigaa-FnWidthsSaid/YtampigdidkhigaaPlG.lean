/-
  Marks of slices inside slices. Plain, no condition.
-/
import Derived.Test.YtampigdidkhigaaPlM
namespace Go.Proofs.Ytampigdidkhigaa
open Go Go.Proofs.Ytampigdidkhigaa.Eng
set_option linter.unusedVariables false
set_option linter.unusedSimpArgs false
end Go.Proofs.Ytampigdidkhigaa
