/-
  Empty triangles in the program; the law. Plain, no condition.
-/
import Derived.Test.YtfknaeamhcpfgaaGreatPlN
namespace Go.Proofs.YtfknaeamhcpfgaaGreat
open Go Go.Proofs.YtfknaeamhcpfgaaGreat.Eng
open Hull (Pt tn lx at_ at_some at_mem)
set_option linter.all false
end Go.Proofs.YtfknaeamhcpfgaaGreat
