/-
  Plain: the examples, described. No condition.
-/
import Derived.Test.YtfmdddoidjhipaaGreatDoorPlPa
import Derived.Test.YtfmdddoidjhipaaGreatDoorPlDp
namespace Go.Proofs.YtfmdddoidjhipaaGreatDoor
open Go Go.Proofs.YtfmdddoidjhipaaGreatDoor.Eng
set_option linter.unusedVariables false
set_option linter.unusedSimpArgs false
theorem exText_eq (x : Int) : ∃ l : List UInt8, l.length ≤ 100 ∧ s_ExampleText x = some (bs l) ∧ i_ExampleText x = some (bs l) := by
  by_cases h : 1 ≤ x ∧ x ≤ 6
  · have : x = 1 ∨ x = 2 ∨ x = 3 ∨ x = 4 ∨ x = 5 ∨ x = 6 := by omega
    rcases this with rfl | rfl | rfl | rfl | rfl | rfl <;> exact ⟨_, by (first | decide | rfl), rfl, rfl⟩
  · refine ⟨[], by simp, ?_, ?_⟩
    · unfold s_ExampleText
      rw [show (x == 1) = false from by simp; omega, show (x == 2) = false from by simp; omega, show (x == 3) = false from by simp; omega, show (x == 4) = false from by simp; omega, show (x == 5) = false from by simp; omega, show (x == 6) = false from by simp; omega]
      rfl
    · unfold i_ExampleText i_within
      by_cases h1 : x ≥ 1
      · rw [show decide (x ≥ 1) = true from by simpa using h1, cond_true]
        simp only [Option.bind_some, List.length_cons, List.length_nil]
        rw [show decide (x ≤ ((0 + 1 + 1 + 1 + 1 + 1 + 1 : Nat) : Int)) = false from by simp; omega]
        rfl
      · rw [show decide (x ≥ 1) = false from by simpa using h1]
        rfl
theorem exPoly_eq (x : Int) : ∃ l : List UInt8, l.length ≤ 100 ∧ s_ExampleText x = some (bs l) ∧ i_ExampleText x = some (bs l) ∧ s_ParsePolygon (bs l) = some (polyR l) ∧ i_examplePolygon x = some (polyR l) := by
  obtain ⟨l, h1, h2, h3⟩ := exText_eq x
  obtain ⟨e1, e2⟩ := parsePolygon_eq (l := l) (by omega)
  refine ⟨l, h1, h2, h3, e1, ?_⟩
  unfold i_examplePolygon
  rw [h3]
  simp only [Option.bind_some, e2]
theorem law_DescribeExample (x : Int) (hx : TyOk (.int .i64) x) : w_FnExactDescribeExample x = some true := by
  obtain ⟨l, _, h2, _, h4, h5⟩ := exPoly_eq x
  obtain ⟨k1, k2, k3⟩ := polyR_fit l
  obtain ⟨s, d1, d2, d3, d4⟩ := describe_eq k1
  unfold w_FnExactDescribeExample s_DescribeExample i_DescribeExample
  rw [h2, h5]
  simp only [Option.bind_some, h4, d1, d2]
  cases h : (polyR l).2 with
  | true => simp
  | false =>
    have hp : isPoly (polyR l).1 = false := by rw [k3 h]; decide
    rw [d3 hp]
    simp only [Bool.not_false, cond_true, Option.bind_some]
    show cond (!((bs []).toList == (bs []).toList)) (some false) (some true) = some true
    simp
end Go.Proofs.YtfmdddoidjhipaaGreatDoor
