/-
  Marks of slices inside slices. Plain, no condition.
-/
import Derived.Test.YtgmlnffeiffaaaaPlM
namespace Go.Proofs.Ytgmlnffeiffaaaa
open Go Go.Proofs.Ytgmlnffeiffaaaa.Eng
set_option linter.unusedVariables false
set_option linter.unusedSimpArgs false
theorem castT_self (t : Ty) (x : t.den) : castT t t x = some x := by
  unfold castT
  cases h : decEq t t with
  | isTrue e => rfl
  | isFalse e => exact absurd rfl e
theorem updAt_list (m : InnerE) (x : List m.t.den) (n : Int) {z : List m.t.den} {n' : Int} (h : m.F x n = some (z, n')) : updAt m (.list m.t) x 0 n = some (z, n') := by
  simp only [updAt]
  rw [castT_self]
  simp only [Option.bind_some, h]
  rw [castT_self]
  rfl
end Go.Proofs.Ytgmlnffeiffaaaa
