/-
  Corner cones; smooth corners. Plain, no condition.
-/
import Derived.Test.YtilggmmanhinbaaPlX
import Derived.Test.YtilggmmanhinbaaPlM
namespace Go.Proofs.Ytilggmmanhinbaa
open Go Go.Proofs.Ytilggmmanhinbaa.Eng
open Hull (Pt tn lx at_ at_some at_mem)
set_option linter.unusedVariables false
set_option linter.unusedSimpArgs false
def sbp (a b : Pt) : Pt := (a.1 - b.1, a.2 - b.2)
theorem sbp_em {a b : Pt} (ha : Bd 50 a) (hb : Bd 50 b) : i_minus (em a) (em b) = some (em (sbp a b)) ∧ s_l2Less (em a) (em b) = some (em (sbp a b)) ∧ Bd 1000 (sbp a b) :=
  ⟨minus_em (by decide) ha hb, less_em (by decide) ha hb, by unfold Bd sbp at *; simp only; omega⟩
end Go.Proofs.Ytilggmmanhinbaa
