/-
  Plain: what a hull's support function and corners are. No condition.
-/
import Derived.Test.YtgbkkmidloeciaaGreatPlSf
import Derived.Test.YtgbkkmidloeciaaGreatPlL
namespace Go.Proofs.YtgbkkmidloeciaaGreat
open Go Go.Proofs.YtgbkkmidloeciaaGreat.Eng
set_option linter.unusedVariables false
set_option linter.unusedSimpArgs false
open Hull (Pt Pol tn lx at_ at_some at_of at_mem Asc)
theorem hull_sub {S : List Pt} {q : Pt} (hq : q ∈ Hull.hull S) : q ∈ S := by
  unfold Hull.hull at hq
  rcases List.mem_append.1 hq with hq | hq
  · have hq := (List.dropLast_sublist _).subset hq
    rw [List.mem_reverse] at hq
    rcases fold_push_sub _ _ q hq with h | h
    · exact h
    · simp at h
  · have hq := (List.dropLast_sublist _).subset hq
    rw [List.mem_reverse] at hq
    rcases fold_push_sub _ _ q hq with h | h
    · simpa using h
    · simp at h
/-- The corner before. -/
def pv (P : List Pt) (k : Nat) : Nat := (k + P.length - 1) % P.length
end Go.Proofs.YtgbkkmidloeciaaGreat
