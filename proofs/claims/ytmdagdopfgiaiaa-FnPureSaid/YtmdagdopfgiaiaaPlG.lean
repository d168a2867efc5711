/-
  Marks of slices inside slices. Plain, no condition.
-/
import Derived.Test.YtmdagdopfgiaiaaPlM
namespace Go.Proofs.Ytmdagdopfgiaiaa
open Go Go.Proofs.Ytmdagdopfgiaiaa.Eng
set_option linter.unusedVariables false
set_option linter.unusedSimpArgs false
end Go.Proofs.Ytmdagdopfgiaiaa
