/-
  Plain: vectors added and scaled. No condition.
-/
import Derived.Test.YtgmlnffeiffaaaaPlM
namespace Go.Proofs.Ytgmlnffeiffaaaa
open Go Go.Proofs.Ytgmlnffeiffaaaa.Eng
set_option linter.unusedVariables false
set_option linter.unusedSimpArgs false
section
variable {α : Type} (zs : List α)
end
end Go.Proofs.Ytgmlnffeiffaaaa
