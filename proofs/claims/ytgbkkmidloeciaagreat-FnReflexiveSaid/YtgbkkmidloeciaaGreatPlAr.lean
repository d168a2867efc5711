/-
  Plain: area and boundary count of a polygon are sums around it. No condition.
-/
import Derived.Test.YtgbkkmidloeciaaGreatPlWt
import Derived.Test.YtgbkkmidloeciaaGreatPlL
namespace Go.Proofs.YtgbkkmidloeciaaGreat
open Go Go.Proofs.YtgbkkmidloeciaaGreat.Eng
set_option linter.unusedVariables false
set_option linter.unusedSimpArgs false
open Hull (Pt Pol tn lx at_ at_some at_of at_mem)
end Go.Proofs.YtgbkkmidloeciaaGreat
