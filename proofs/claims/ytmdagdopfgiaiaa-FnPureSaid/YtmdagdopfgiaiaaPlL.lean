/-
  Whole points of polygons in the program; layers. Plain, no condition.
-/
import Derived.Test.YtmdagdopfgiaiaaPlO
import Derived.Test.YtmdagdopfgiaiaaPlG
namespace Go.Proofs.Ytmdagdopfgiaiaa
open Go Go.Proofs.Ytmdagdopfgiaiaa.Eng
open Hull (Pt tn lx at_ at_some at_mem)
set_option linter.unusedVariables false
set_option linter.unusedSimpArgs false
end Go.Proofs.Ytmdagdopfgiaiaa
