/-
  Marks of slices inside slices. Plain, no condition.
-/
import Derived.Test.YtfknaeamhcpfgaaGreatPlM
namespace Go.Proofs.YtfknaeamhcpfgaaGreat
open Go Go.Proofs.YtfknaeamhcpfgaaGreat.Eng
set_option linter.all false
end Go.Proofs.YtfknaeamhcpfgaaGreat
