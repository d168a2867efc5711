/-
  Regions: of a polygon, tightened. Plain, no condition.
-/
import Derived.Test.YtfknaeamhcpfgaaGreatPlHv
import Derived.Test.YtfknaeamhcpfgaaGreatPlTh
namespace Go.Proofs.YtfknaeamhcpfgaaGreat
open Go Go.Proofs.YtfknaeamhcpfgaaGreat.Eng
set_option linter.unusedVariables false
set_option linter.unusedSimpArgs false
structure SmH (n : Nat) (xs : List Hf) : Prop where
  len : xs.length ≤ n
  each : ∀ h ∈ xs, h.1.length ≤ 3
end Go.Proofs.YtfknaeamhcpfgaaGreat
