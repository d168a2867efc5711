/-
  Corner cones; smooth corners. Plain, no condition.
-/
import Derived.Test.YtfknaeamhcpfgaaGreatPlX
import Derived.Test.YtfknaeamhcpfgaaGreatPlM
namespace Go.Proofs.YtfknaeamhcpfgaaGreat
open Go Go.Proofs.YtfknaeamhcpfgaaGreat.Eng
open Hull (Pt tn lx at_ at_some at_mem)
set_option linter.unusedVariables false
set_option linter.unusedSimpArgs false
end Go.Proofs.YtfknaeamhcpfgaaGreat
