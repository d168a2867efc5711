/-
  Halves of a polygon's sides. Plain, no condition.
-/
import Derived.Test.YtfknaeamhcpfgaaGreatPlMs
import Derived.Test.YtfknaeamhcpfgaaGreatPlO
import Derived.Test.YtfknaeamhcpfgaaGreatPlI
import Derived.Test.YtfknaeamhcpfgaaGreatPlY
namespace Go.Proofs.YtfknaeamhcpfgaaGreat
open Go Go.Proofs.YtfknaeamhcpfgaaGreat.Eng Hull
set_option linter.unusedVariables false
set_option linter.unusedSimpArgs false
end Go.Proofs.YtfknaeamhcpfgaaGreat
