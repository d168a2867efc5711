/-
  The program's hull is the reference's. Plain, no condition.
-/
import Derived.Test.YtfmdddoidjhipaaGreatDoorPlU
import Derived.Test.YtfmdddoidjhipaaGreatDoorPlW
namespace Go.Proofs.YtfmdddoidjhipaaGreatDoor.Hull
open Go Go.Proofs.YtfmdddoidjhipaaGreatDoor.Eng
set_option linter.unusedVariables false
set_option linter.unusedSimpArgs false
end Go.Proofs.YtfmdddoidjhipaaGreatDoor.Hull
namespace Go.Proofs.YtfmdddoidjhipaaGreatDoor
open Go Go.Proofs.YtfmdddoidjhipaaGreatDoor.Eng Hull
set_option linter.unusedVariables false
set_option linter.unusedSimpArgs false
theorem copyPoints_eq {x : List (List Int)} (hl : x.length ≤ 100000) (hx : ∀ v ∈ x, v.length ≤ 1000) : i_copyPoints x = some x := by
  have := iter_up (step := i_copyPoints_s3 x) x.length (fun k => (x.take k, (k : Int))) x (fun k hk => by
    have hg : x[k]? = some x[k] := List.getElem?_eq_getElem hk
    unfold i_copyPoints_s3
    simp only
    rw [show decide ((k : Int) < (x.length : Int)) = true from by simp; omega, cond_true, idx_some hg]
    simp only [Option.bind_some]
    rw [copyInts_eq (by have := hx _ (List.getElem_mem hk); rw [lim_eq]; omega)]
    simp only [Option.bind_some]
    rw [appD_some (by rw [lim_eq]; simp; omega) (by rw [lim_eq]; simp; omega), wrap_small (x := (k : Int) + 1) (by omega) (by omega), List.take_add_one, hg]
    rfl) (by
    unfold i_copyPoints_s3
    simp)
  unfold i_copyPoints
  have e : (([], 0) : List (List Int) × Int) = (x.take 0, ((0 : Nat) : Int)) := by simp
  rw [e, this]; rfl
end Go.Proofs.YtfmdddoidjhipaaGreatDoor
