/-
  The engine, part 0. What package-level variables hold. No condition.
-/
import Derived.Calls
import Derived.KernelRfl
import Derived.Lib.ItoaNum
namespace Go.Proofs.YtfmdddoidjhipaaGreatDoor.Eng
open Go
def glN:Nat:=4
def glT:List (Nat × (Obj→Prop)):=[(0,fun o=>∃ t fr,o = .cells (Lib.pow10Tab.map fun z=>Value.int .u64 z).toArray t fr),(1,fun o=>∃ m cs t fr,o = .cells cs t fr∧cs[0]? = some (.int .i64 m)),(2,fun o=>∃ te pe cs t fr,o = .cells cs t fr∧cs[0]? = some (.iface te pe)),(3,fun o=>∃ te pe cs t fr,o = .cells cs t fr∧cs[0]? = some (.iface te pe))]
theorem glT_lt:∀ p∈glT,p.1 < glN:=fun p hp=>by
  simp only [glT,List.mem_cons,List.not_mem_nil,or_false] at hp
  rcases hp with rfl | rfl | rfl | rfl <;> decide
end Go.Proofs.YtfmdddoidjhipaaGreatDoor.Eng
