/-
  Plain: marks and cones. No condition.
-/
import Derived.Test.YtcpdhjklcongoaaPl4
namespace Go.Proofs.Ytcpdhjklcongoaa
open Go Go.Proofs.Ytcpdhjklcongoaa.Eng
set_option linter.unusedVariables false
set_option linter.unusedSimpArgs false
end Go.Proofs.Ytcpdhjklcongoaa
