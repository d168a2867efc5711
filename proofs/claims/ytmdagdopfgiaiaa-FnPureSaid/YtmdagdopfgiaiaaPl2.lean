/-
  The laws' own helpers: sizes, copies, equality. No condition.
-/
import Derived.Test.YtmdagdopfgiaiaaPl1
import Derived.Test.YtmdagdopfgiaiaaGen
namespace Go.Proofs.Ytmdagdopfgiaiaa
open Go Eng
set_option linter.unusedVariables false
set_option linter.unusedSimpArgs false
theorem cond_ite {α : Type} (b : Bool) (x y : α) : cond b x y = if b then x else y := by cases b <;> rfl
end Go.Proofs.Ytmdagdopfgiaiaa
