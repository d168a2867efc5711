/-
  Plain: what a hull's support function and corners are. No condition.
-/
import Derived.Test.YtilggmmanhinbaaPlSf
import Derived.Test.YtilggmmanhinbaaPlL
namespace Go.Proofs.Ytilggmmanhinbaa
open Go Go.Proofs.Ytilggmmanhinbaa.Eng
set_option linter.unusedVariables false
set_option linter.unusedSimpArgs false
open Hull (Pt Pol tn lx at_ at_some at_of at_mem Asc)
theorem hull_sub {S : List Pt} {q : Pt} (hq : q ∈ Hull.hull S) : q ∈ S := by
  unfold Hull.hull at hq
  rcases List.mem_append.1 hq with hq | hq
  · have hq := (List.dropLast_sublist _).subset hq
    rw [List.mem_reverse] at hq
    rcases fold_push_sub _ _ q hq with h | h
    · exact h
    · simp at h
  · have hq := (List.dropLast_sublist _).subset hq
    rw [List.mem_reverse] at hq
    rcases fold_push_sub _ _ q hq with h | h
    · simpa using h
    · simp at h
theorem gcd_pos_side {P : List Pt} (h : Pol P) {k : Nat} (hk : k < P.length) : 0 < gcdP (at_ P k) (nx P k) := by
  unfold gcdP
  rcases Nat.eq_zero_or_pos (Int.gcd ((nx P k).1 - (at_ P k).1) ((nx P k).2 - (at_ P k).2)) with h0 | h0
  · rw [Int.gcd_eq_zero_iff] at h0
    exact absurd (Prod.ext (by omega) (by omega)) (next_ne h hk)
  · omega
/-- The corner before. -/
def pv (P : List Pt) (k : Nat) : Nat := (k + P.length - 1) % P.length
/-- The hull's support function is the list's. -/
theorem sup_hull {S : List Pt} (hs : Asc S) (h3 : 3 ≤ (Hull.hull S).length) (a : Pt) : (∀ s ∈ S, dt a s ≤ sup (Hull.hull S) a) ∧ ∃ q ∈ S, q ∈ Hull.hull S ∧ sup (Hull.hull S) a = dt a q := by
  have hp := Hull.pol_hull hs h3
  obtain ⟨_, q, hq, e⟩ := sup_spec (P := Hull.hull S) (by omega) a
  exact ⟨fun s hs' => in_sup h3 hp a (hull_in hs h3 hs'), q, hull_sub hq, hq, e⟩
end Go.Proofs.Ytilggmmanhinbaa
