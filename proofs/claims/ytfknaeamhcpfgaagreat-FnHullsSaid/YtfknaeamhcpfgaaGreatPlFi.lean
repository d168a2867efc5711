/-
  Loops that stop at the first find. Plain, no condition.
-/
import Derived.Test.YtfknaeamhcpfgaaGreatPl4
namespace Go.Proofs.YtfknaeamhcpfgaaGreat
open Go Go.Proofs.YtfknaeamhcpfgaaGreat.Eng
set_option linter.all false
end Go.Proofs.YtfknaeamhcpfgaaGreat
