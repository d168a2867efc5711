/-
  Marks of slices inside slices, to the number. Plain, no condition.
-/
import Derived.Test.YtfknaeamhcpfgaaGreatPlG
namespace Go.Proofs.YtfknaeamhcpfgaaGreat
open Go Go.Proofs.YtfknaeamhcpfgaaGreat.Eng
set_option linter.all false
section
variable {α:Type}(f:Int→α→α)(c:α→Nat)
end
end Go.Proofs.YtfknaeamhcpfgaaGreat
