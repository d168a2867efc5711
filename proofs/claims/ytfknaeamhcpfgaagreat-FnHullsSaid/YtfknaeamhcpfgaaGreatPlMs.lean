/-
  Marks of slices inside slices, to the number. Plain, no condition.
-/
import Derived.Test.YtfknaeamhcpfgaaGreatPlG
namespace Go.Proofs.YtfknaeamhcpfgaaGreat
open Go Go.Proofs.YtfknaeamhcpfgaaGreat.Eng
set_option linter.all false
end Go.Proofs.YtfknaeamhcpfgaaGreat
