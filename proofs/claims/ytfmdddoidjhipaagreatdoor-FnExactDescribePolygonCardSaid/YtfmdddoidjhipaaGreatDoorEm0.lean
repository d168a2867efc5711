/-
  The engine, part 0. What package-level variables hold. No condition.
-/
import Derived.Calls
import Derived.KernelRfl
import Derived.Lib.ItoaNum
namespace Go.Proofs.YtfmdddoidjhipaaGreatDoor.Eng
open Go
/-- Variables lie in blocks below this one. -/
def glN : Nat := 1
/-- A variable's block and what is asked of it. -/
def glT : List (Nat × (Obj → Prop)) := [(0, fun o => ∃ t fr, o = .cells (Lib.pow10Tab.map fun z => Value.int .u64 z).toArray t fr)]
theorem glT_lt : ∀ p ∈ glT, p.1 < glN := fun p hp => by
  simp only [glT, List.mem_cons, List.not_mem_nil, or_false] at hp
  rcases hp with rfl <;> decide
end Go.Proofs.YtfmdddoidjhipaaGreatDoor.Eng
