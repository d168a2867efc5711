/-
  Marks of slices inside slices, to the number. Plain, no condition.
-/
import Derived.Test.YtilggmmanhinbaaPlG
namespace Go.Proofs.Ytilggmmanhinbaa
open Go Go.Proofs.Ytilggmmanhinbaa.Eng
set_option linter.unusedVariables false
set_option linter.unusedSimpArgs false
section
variable {α : Type} (f : Int → α → α) (c : α → Nat)
end
end Go.Proofs.Ytilggmmanhinbaa
