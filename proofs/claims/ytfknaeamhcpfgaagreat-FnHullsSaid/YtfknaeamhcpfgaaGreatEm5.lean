/-
  The engine, part 43. Calls that are run in their caller's state and leave it as it was. No condition.
-/
import Derived.Test.YtfknaeamhcpfgaaGreatEm4
namespace Go.Proofs.YtfknaeamhcpfgaaGreat.Eng
open Go
set_option linter.all false
end Go.Proofs.YtfknaeamhcpfgaaGreat.Eng
