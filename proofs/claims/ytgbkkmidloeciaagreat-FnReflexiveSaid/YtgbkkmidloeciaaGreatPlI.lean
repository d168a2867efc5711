/-
  Regions by inequalities, their points; implied halves. Plain, no condition.
-/
import Derived.Test.YtgbkkmidloeciaaGreatPlX
namespace Go.Proofs.YtgbkkmidloeciaaGreat
open Go Go.Proofs.YtgbkkmidloeciaaGreat.Eng
set_option linter.unusedVariables false
set_option linter.unusedSimpArgs false
abbrev Hf : Type := List Int × Int
abbrev Rg : Type := Int × List (List Int × Int)
/-! Points. -/
structure RegOk (r : Rg) (n : Nat) : Prop where
  dim : r.1 = n
  lo : 1 ≤ n
  hi : n ≤ 3
  len : r.2.length ≤ 8
  halves : ∀ h ∈ r.2, h.1.length = n ∧ (∀ x ∈ h.1, -20 ≤ x ∧ x ≤ 20) ∧ -200 ≤ h.2 ∧ h.2 ≤ 200 ∧ 0 < gcdL h.1
structure FitH (xs : List Hf) : Prop where
  len : xs.length ≤ 1048576
  each : ∀ h ∈ xs, h.1.length ≤ 1048576
end Go.Proofs.YtgbkkmidloeciaaGreat
