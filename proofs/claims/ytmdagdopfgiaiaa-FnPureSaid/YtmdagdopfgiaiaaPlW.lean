/-
  Supports and widths of polygons. Plain, no condition.
-/
import Derived.Test.YtmdagdopfgiaiaaPlU
namespace Go.Proofs.Ytmdagdopfgiaiaa
open Go Go.Proofs.Ytmdagdopfgiaiaa.Eng
open Hull (Pt tn lx at_ at_some at_mem)
set_option linter.unusedVariables false
set_option linter.unusedSimpArgs false
def dt (a b : Pt) : Int := a.1 * b.1 + a.2 * b.2
theorem Bd.mono {m n : Int} {q : Pt} (h : Bd m q) (hmn : m ≤ n) : Bd n q := by unfold Bd at *; omega
def mx (a b : Int) : Int := if b > a then b else a
def mn (a b : Int) : Int := if b < a then b else a
/-- The greatest product with the corners. -/
def sup (P : List Pt) (a : Pt) : Int := P.foldl (fun m q => mx m (dt a q)) (dt a (at_ P 0))
theorem poly_of {p : List (List Int)} (h : isPoly p = true) : ∃ P : List Pt, p = P.map em ∧ (∀ q ∈ P, Bd 50 q) ∧ 3 ≤ P.length ∧ P.length ≤ 12 ∧ Hull.Pol P := by
  have h' := h
  unfold isPoly at h'
  simp only [Bool.and_eq_true] at h'
  obtain ⟨P, rfl, hB⟩ := pts_of h'.1.2
  obtain ⟨h1, h2⟩ := (isPoly_iff hB).1 h
  exact ⟨P, rfl, hB, h2.len, h1, h2⟩
def ngp (a : Pt) : Pt := (-a.1, -a.2)
theorem Bd.ngp {m : Int} {a : Pt} (h : Bd m a) : Bd m (ngp a) := by
  unfold Bd at h ⊢
  refine ⟨?_, ?_, ?_, ?_⟩ <;> simp only [Go.Proofs.Ytmdagdopfgiaiaa.ngp] <;> omega
end Go.Proofs.Ytmdagdopfgiaiaa
