/-
  Plain: marks and cones. No condition.
-/
import Derived.Test.YtfmdddoidjhipaaGreatDoorPl4
namespace Go.Proofs.YtfmdddoidjhipaaGreatDoor
open Go Go.Proofs.YtfmdddoidjhipaaGreatDoor.Eng
set_option linter.unusedVariables false
set_option linter.unusedSimpArgs false
def ms (k : Int) (n : Nat) : List Int := (List.range n).map fun (i : Nat) => k + (i : Int)
theorem ms_len (k : Int) (n : Nat) : (ms k n).length = n := by simp [ms]
theorem ms_get {k : Int} {n i : Nat} (h : i < n) : (ms k n)[i]? = some (k + (i : Int)) := by simp [ms, h]
theorem heldIntS_eq {n : Nat} (hn : n ≤ 2097152) {k : Int} (h0 : 0 ≤ k) (h1 : k ≤ 1099511627776) : w_heldIntS (ms k n) k = some (k + (n : Int)) := by
  have := iter_fun (step := w_heldIntS_s2 (ms k n)) (fun s => ∃ i, i ≤ n ∧ s = (k + (i : Int), (i : Int))) (fun s => n - s.2.toNat) (fun _ => .inl (k + (n : Int))) (fun s hs => ?_) (s := (k, 0)) ⟨0, by omega, by simp⟩
  · simp only [w_heldIntS, this, Option.bind_some]
  · obtain ⟨i, hi, rfl⟩ := hs
    by_cases h : i < n
    · right
      have hd : decide ((i : Int) < ((ms k n).length : Nat)) = true := by rw [ms_len]; simp; omega
      refine ⟨_, ?_, ⟨i + 1, by omega, rfl⟩, ?_, rfl⟩
      · have hb : (k + (i : Int) != k + (i : Int)) = false := by simp
        simp only [w_heldIntS_s2, hd, cond_true, idx_some (ms_get h), Option.bind_some, hb, cond_false]
        have hw : IntKind.i64.wrap (k + (i : Int) + 1) = k + ((i + 1 : Nat) : Int) := by rw [wrap_id (by omega) (by omega)]; omega
        have hw2 : IntKind.i64.wrap ((i : Int) + 1) = ((i + 1 : Nat) : Int) := by rw [wrap_id (by omega) (by omega)]; omega
        rw [hw, hw2]
      · simp only [Int.toNat_natCast]; omega
    · left
      have hi2 : i = n := by omega
      subst hi2
      have hd : decide ((i : Int) < ((ms k i).length : Nat)) = false := by rw [ms_len]; simp
      simp only [w_heldIntS_s2, hd, cond_false]
end Go.Proofs.YtfmdddoidjhipaaGreatDoor
