/-
  Plain: marks and cones. No condition.
-/
import Derived.Test.YtmdagdopfgiaiaaPl4
namespace Go.Proofs.Ytmdagdopfgiaiaa
open Go Go.Proofs.Ytmdagdopfgiaiaa.Eng
set_option linter.unusedVariables false
set_option linter.unusedSimpArgs false
abbrev Cn : Type := List Int × List Int
/-- What a cone is. -/
def isCn (c : Cn) : Bool := isPt 30 c.1 && isPt 30 c.2 && (gcdL c.1 == 1) && (gcdL c.2 == 1) && decide (0 < crsL c.1 c.2)
theorem i_IsCone_eq {c : Cn} (h1 : c.1.length ≤ lim) (h2 : c.2.length ≤ lim) : i_IsCone c = some (isCn c) := by
  simp only [i_IsCone, isPoint_eq h1 (m := 30) (by omega) (by omega), isPoint_eq h2 (m := 30) (by omega) (by omega), Option.bind_some, isCn]
  cases p1 : isPt 30 c.1
  · simp
  cases p2 : isPt 30 c.2
  · simp
  simp only [cond_true, gcdAll_eq h1 (isPt_sm (m := 30) (by omega) p1), gcdAll_eq h2 (isPt_sm (m := 30) (by omega) p2), Option.bind_some, (crossL_eq (m := 30) (by omega) p1 p2).1]
  cases (gcdL c.1 == 1) <;> cases (gcdL c.2 == 1) <;> simp
theorem s_l9Ray_eq {v : List Int} (h1 : v.length ≤ lim) : s_l9Ray v = some (isPt 30 v && (gcdL v == 1)) := by
  unfold s_l9Ray isPt
  have e : ((v.length : Int) == (2 : Int)) = (v.length == 2) := by
    rw [Bool.eq_iff_iff]; simp; omega
  rw [e]
  cases hl : v.length == 2
  · simp
  · simp only [cond_true, l2Small_eq h1 (m := 30) (by omega) (by omega), Option.bind_some, Bool.true_and]
    cases ha : v.all (inR (-30) 30)
    · simp
    · have hp : isPt 30 v = true := by unfold isPt; rw [hl, ha]; rfl
      simp only [cond_true, l2All_eq h1 (isPt_sm (m := 30) (by omega) hp), Option.bind_some, Bool.true_and]
theorem s_IsCone_eq {c : Cn} (h1 : c.1.length ≤ lim) (h2 : c.2.length ≤ lim) : s_IsCone c = some (isCn c) := by
  simp only [s_IsCone, s_l9Ray_eq h1, s_l9Ray_eq h2, Option.bind_some, isCn]
  cases p1 : isPt 30 c.1
  · simp
  cases p2 : isPt 30 c.2
  · cases (gcdL c.1 == 1) <;> simp
  cases g1 : gcdL c.1 == 1
  · simp
  cases g2 : gcdL c.2 == 1
  · simp
  simp [(crossL_eq (m := 30) (by omega) p1 p2).2]
end Go.Proofs.Ytmdagdopfgiaiaa
