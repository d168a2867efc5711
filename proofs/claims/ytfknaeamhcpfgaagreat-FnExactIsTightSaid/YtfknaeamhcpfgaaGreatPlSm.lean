/-
  Sums of polygons, their areas. Plain, no condition.
-/
import Derived.Test.YtfknaeamhcpfgaaGreatPlHl
import Derived.Test.YtfknaeamhcpfgaaGreatPlL
import Derived.Test.YtfknaeamhcpfgaaGreatPlMs
namespace Go.Proofs.YtfknaeamhcpfgaaGreat
open Go Go.Proofs.YtfknaeamhcpfgaaGreat.Eng Hull
set_option linter.unusedVariables false
set_option linter.unusedSimpArgs false
theorem hullS_false {p : List (List Int)} (h : (hullS p).2 = false) : hullS p = ([], false) := by
  unfold hullS at h ⊢
  split at h
  · rename_i h1
    rw [if_pos h1]
    simp only at h ⊢
    split at h
    · cases h
    · rename_i h2
      rw [if_neg h2]
  · rename_i h1
    rw [if_neg h1]
theorem hullS_cond (p : List (List Int)) : cond (!(hullS p).2) (some (([] : List (List Int)), false)) (some ((hullS p).1, true)) = some (hullS p) := by
  cases h : (hullS p).2 with
  | false => rw [hullS_false h]; rfl
  | true =>
    show some ((hullS p).1, true) = _
    rw [← h]
end Go.Proofs.YtfknaeamhcpfgaaGreat
