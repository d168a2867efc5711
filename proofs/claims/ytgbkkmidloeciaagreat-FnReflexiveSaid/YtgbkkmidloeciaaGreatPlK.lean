/-
  Plain: vectors added and scaled. No condition.
-/
import Derived.Test.YtgbkkmidloeciaaGreatPlM
namespace Go.Proofs.YtgbkkmidloeciaaGreat
open Go Go.Proofs.YtgbkkmidloeciaaGreat.Eng
set_option linter.unusedVariables false
set_option linter.unusedSimpArgs false
section
variable {α : Type} (zs : List α)
end
end Go.Proofs.YtgbkkmidloeciaaGreat
