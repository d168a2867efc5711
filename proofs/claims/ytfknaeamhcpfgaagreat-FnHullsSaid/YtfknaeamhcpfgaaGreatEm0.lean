/-
  The engine, part 0. What package-level variables hold (here: nothing is asked of them). No condition.
-/
import Derived.Calls
import Derived.KernelRfl
namespace Go.Proofs.YtfknaeamhcpfgaaGreat.Eng
open Go
def glN:Nat:=0
def glT:List (Nat×(Obj→Prop)):=[]
def eInt:Option TypeId:=some 3
theorem glT_lt:∀p∈glT,p.1<glN:=fun p hp=>by cases hp
end Go.Proofs.YtfknaeamhcpfgaaGreat.Eng
