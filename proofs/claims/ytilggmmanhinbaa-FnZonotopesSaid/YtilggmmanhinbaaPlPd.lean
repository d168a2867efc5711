/-
  Plain: drawn polygons. No condition.
-/
import Derived.Test.YtilggmmanhinbaaPlCu
import Derived.Test.YtilggmmanhinbaaPlU
namespace Go.Proofs.Ytilggmmanhinbaa
open Go Go.Proofs.Ytilggmmanhinbaa.Eng
set_option linter.unusedVariables false
set_option linter.unusedSimpArgs false
theorem fit_small {p : List (List Int)} (h1 : p.length ≤ 1000) (h2 : ∀ v ∈ p, v.length ≤ 1000) : FitLL p := ⟨by omega, fun v hv => by have := h2 v hv; omega⟩
end Go.Proofs.Ytilggmmanhinbaa
