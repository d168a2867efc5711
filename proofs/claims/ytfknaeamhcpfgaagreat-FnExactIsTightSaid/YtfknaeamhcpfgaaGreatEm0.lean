/-
  The engine, part 0. What package-level variables hold (here: nothing is asked of them). No condition.
-/
import Derived.Calls
import Derived.KernelRfl
namespace Go.Proofs.YtfknaeamhcpfgaaGreat.Eng
open Go
/-- Variables lie in blocks below this one. -/
def glN : Nat := 0
/-- A variable's block and what is asked of it. -/
def glT : List (Nat × (Obj → Prop)) := []
/-- The type of the ints in lists that lie in deep slices, if it is fixed. -/
def eInt : Option TypeId := some 3
theorem glT_lt : ∀ p ∈ glT, p.1 < glN := fun p hp => by cases hp
end Go.Proofs.YtfknaeamhcpfgaaGreat.Eng
