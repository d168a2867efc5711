/-
  The reference's hull, as a plain function of points; its test of polygons. Plain, no condition.
-/
import Derived.Test.YtednadbkcpcmfaaPlR
namespace Go.Proofs.Ytednadbkcpcmfaa
open Go Go.Proofs.Ytednadbkcpcmfaa.Eng
open Hull (Pt tn lx Asc ins chk)
set_option linter.unusedVariables false
set_option linter.unusedSimpArgs false
end Go.Proofs.Ytednadbkcpcmfaa
