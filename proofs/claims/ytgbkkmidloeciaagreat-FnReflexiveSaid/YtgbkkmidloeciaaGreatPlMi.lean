/-
  Mirrored polygons. Plain, no condition.
-/
import Derived.Test.YtgbkkmidloeciaaGreatPlSm
import Derived.Test.YtgbkkmidloeciaaGreatPlK
import Derived.Test.YtgbkkmidloeciaaGreatPlY
namespace Go.Proofs.YtgbkkmidloeciaaGreat
open Go Go.Proofs.YtgbkkmidloeciaaGreat.Eng Hull
set_option linter.unusedVariables false
set_option linter.unusedSimpArgs false
end Go.Proofs.YtgbkkmidloeciaaGreat
