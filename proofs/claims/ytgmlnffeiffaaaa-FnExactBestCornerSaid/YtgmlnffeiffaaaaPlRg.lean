/-
  Regions: of a polygon, tightened. Plain, no condition.
-/
import Derived.Test.YtgmlnffeiffaaaaPlHv
import Derived.Test.YtgmlnffeiffaaaaPlTh
namespace Go.Proofs.Ytgmlnffeiffaaaa
open Go Go.Proofs.Ytgmlnffeiffaaaa.Eng
set_option linter.unusedVariables false
set_option linter.unusedSimpArgs false
/-! Marks of regions. -/
theorem markRegion_ms {n : Int} {xs : List Hf} (hl : xs.length ≤ 2097152) (ht : totC cH xs ≤ 2097152) (h0 : 0 ≤ n) (h1 : n ≤ 549755813888) : d_markRegion xs n = some (msH n xs, n + totC cH xs) := by
  unfold d_markRegion
  rw [d_markHalfS_ms hl ht h0 h1]; rfl
structure SmH (n : Nat) (xs : List Hf) : Prop where
  len : xs.length ≤ n
  each : ∀ h ∈ xs, h.1.length ≤ 3
theorem totC_H (xs : List Hf) : totC cH xs = totH xs := by
  unfold totC totH cH
  induction xs with
  | nil => rfl
  | cons x r ih => simp only [List.map_cons, List.sum_cons, List.length_cons]; omega
end Go.Proofs.Ytgmlnffeiffaaaa
