/-
  Marks of slices inside slices. Plain, no condition.
-/
import Derived.Test.YtcpdhjklcongoaaPlM
namespace Go.Proofs.Ytcpdhjklcongoaa
open Go Go.Proofs.Ytcpdhjklcongoaa.Eng
set_option linter.unusedVariables false
set_option linter.unusedSimpArgs false
end Go.Proofs.Ytcpdhjklcongoaa
