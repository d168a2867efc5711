/-
  Whole points of polygons in the program; layers. Plain, no condition.
-/
import Derived.Test.YtgbkkmidloeciaaGreatPlO
import Derived.Test.YtgbkkmidloeciaaGreatPlG
namespace Go.Proofs.YtgbkkmidloeciaaGreat
open Go Go.Proofs.YtgbkkmidloeciaaGreat.Eng
open Hull (Pt tn lx at_ at_some at_mem)
set_option linter.unusedVariables false
set_option linter.unusedSimpArgs false
theorem area_same (x : List (List Int)) : i_areaTwice x = s_l7Area x := rfl
theorem crs_bd {a b : Pt} (ha : Bd 50 a) (hb : Bd 50 b) : -5000 ≤ a.1 * b.2 - a.2 * b.1 ∧ a.1 * b.2 - a.2 * b.1 ≤ 5000 := by
  have h1 := abs_mul_le ha.1 ha.2.1 hb.2.2.1 hb.2.2.2
  have h2 := abs_mul_le ha.2.2.1 ha.2.2.2 hb.1 hb.2.1
  omega
theorem l7Cross_em {a b : Pt} (ha : Bd 50 a) (hb : Bd 50 b) : s_l7Cross (em a) (em b) = some (a.1 * b.2 - a.2 * b.1) := by
  have h1 := abs_mul_le ha.1 ha.2.1 hb.2.2.1 hb.2.2.2
  have h2 := abs_mul_le ha.2.2.1 ha.2.2.2 hb.1 hb.2.1
  unfold s_l7Cross
  simp only [(idx_em a).1, (idx_em a).2, (idx_em b).1, (idx_em b).2, Option.bind_some]
  rw [wrap_small (x := a.1 * b.2) (by omega) (by omega), wrap_small (x := a.2 * b.1) (by omega) (by omega), wrap_small (by omega) (by omega)]
end Go.Proofs.YtgbkkmidloeciaaGreat
