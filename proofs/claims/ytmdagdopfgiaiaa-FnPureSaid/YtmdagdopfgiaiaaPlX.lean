/-
  Boxes of points; least widths. Plain, no condition.
-/
import Derived.Test.YtmdagdopfgiaiaaPlW
namespace Go.Proofs.Ytmdagdopfgiaiaa
open Go Go.Proofs.Ytmdagdopfgiaiaa.Eng
open Hull (Pt tn lx at_ at_some at_mem)
set_option linter.unusedVariables false
set_option linter.unusedSimpArgs false
def rng (lo hi : Int) : List Int := (List.range (hi + 1 - lo).toNat).map fun (i : Nat) => lo + (i : Int)
/-- Each list longer by one number. -/
def ext (lo hi : Int) (L : List (List Int)) : List (List Int) := L.flatMap fun v => (rng lo hi).map fun x => v ++ [x]
section
variable {lo hi : Int}
end
/-- The width in a direction. -/
def wid (P : List Pt) (a : Pt) : Int := sup P a + sup P (ngp a)
end Go.Proofs.Ytmdagdopfgiaiaa
