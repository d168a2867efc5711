/-
  Corner cones; smooth corners. Plain, no condition.
-/
import Derived.Test.YtednadbkcpcmfaaPlX
import Derived.Test.YtednadbkcpcmfaaPlM
namespace Go.Proofs.Ytednadbkcpcmfaa
open Go Go.Proofs.Ytednadbkcpcmfaa.Eng
open Hull (Pt tn lx at_ at_some at_mem)
set_option linter.unusedVariables false
set_option linter.unusedSimpArgs false
end Go.Proofs.Ytednadbkcpcmfaa
