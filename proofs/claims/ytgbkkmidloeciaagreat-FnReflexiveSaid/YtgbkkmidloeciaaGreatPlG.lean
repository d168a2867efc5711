/-
  Marks of slices inside slices. Plain, no condition.
-/
import Derived.Test.YtgbkkmidloeciaaGreatPlM
namespace Go.Proofs.YtgbkkmidloeciaaGreat
open Go Go.Proofs.YtgbkkmidloeciaaGreat.Eng
set_option linter.unusedVariables false
set_option linter.unusedSimpArgs false
end Go.Proofs.YtgbkkmidloeciaaGreat
