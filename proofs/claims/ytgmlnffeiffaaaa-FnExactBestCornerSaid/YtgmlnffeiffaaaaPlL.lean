/-
  Whole points of polygons in the program; layers. Plain, no condition.
-/
import Derived.Test.YtgmlnffeiffaaaaPlO
import Derived.Test.YtgmlnffeiffaaaaPlG
namespace Go.Proofs.Ytgmlnffeiffaaaa
open Go Go.Proofs.Ytgmlnffeiffaaaa.Eng
open Hull (Pt tn lx at_ at_some at_mem)
set_option linter.unusedVariables false
set_option linter.unusedSimpArgs false
end Go.Proofs.Ytgmlnffeiffaaaa
