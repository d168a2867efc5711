/-
  Plain: the examples, described. No condition.
-/
import Derived.Test.YtfmdddoidjhipaaGreatDoorPlPa
import Derived.Test.YtfmdddoidjhipaaGreatDoorPlDp
namespace Go.Proofs.YtfmdddoidjhipaaGreatDoor
open Go Go.Proofs.YtfmdddoidjhipaaGreatDoor.Eng
set_option linter.unusedVariables false
set_option linter.unusedSimpArgs false
theorem exText_eq (x:Int):∃ l:List UInt8,l.length≤100∧s_ExampleText x = some (bs l)∧i_ExampleText x = some (bs l):=by
  by_cases h:1≤x∧x≤6
  · have:x = 1∨x = 2∨x = 3∨x = 4∨x = 5∨x = 6:=by omega
    rcases this with rfl | rfl | rfl | rfl | rfl | rfl <;> exact ⟨_,by (first | decide | rfl),rfl,rfl⟩
  · refine ⟨[],by simp,?_,?_⟩
    · unfold s_ExampleText
      rw [show (x == 1) = false from by simp; omega,show (x == 2) = false from by simp; omega,show (x == 3) = false from by simp; omega,show (x == 4) = false from by simp; omega,show (x == 5) = false from by simp; omega,show (x == 6) = false from by simp; omega]
      rfl
    · unfold i_ExampleText i_within
      by_cases h1:x ≥ 1
      · rw [show decide (x ≥ 1) = true from by simpa using h1,cond_true]
        simp only [Option.bind_some,List.length_cons,List.length_nil]
        rw [show decide (x≤((0 + 1 + 1 + 1 + 1 + 1 + 1:Nat):Int)) = false from by simp; omega]
        rfl
      · rw [show decide (x ≥ 1) = false from by simpa using h1]
        rfl
end Go.Proofs.YtfmdddoidjhipaaGreatDoor
