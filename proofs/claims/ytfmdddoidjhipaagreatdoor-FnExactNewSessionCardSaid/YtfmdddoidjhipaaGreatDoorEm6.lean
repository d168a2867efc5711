/-
  The engine, part 44. Rows of slices, sorted and turned round by the library. No condition.
-/
import Derived.Test.YtfmdddoidjhipaaGreatDoorEm5
import Derived.Shelf.SlSortCmp.NoneTotal
import Derived.Shelf.SlicesE.Reverse
namespace Go.Proofs.YtfmdddoidjhipaaGreatDoor.Eng
open Go Go.Sort
set_option linter.unusedVariables false
set_option linter.unusedSimpArgs false
section
variable {u : Ty} {w : World} {g : Nat} {I I' : Nat → Prop}
def El (w : World) (g : Nat) (u : Ty) : Type := { p : Value × List u.den × List Nat // DpC 0 w (.list u) p.2.1 [p.1] p.2.2 ∧ g ∉ p.2.2 }
def El.enc (p : El w g u) : Value := p.1.1
def El.dat (p : El w g u) : List u.den := p.1.2.1
def El.bs (p : El w g u) : List Nat := p.1.2.2
theorem nilDp (w : World) (u : Ty) : DpC 0 w (.list u) ([] : List u.den) [.slice none 0 0] [] := by
  simp only [DpC]
  exact ⟨none, 0, 0, rfl, rfl, Nat.le_refl _, Nat.zero_le _, Nat.zero_le _, .inl (by simp)⟩
instance (w : World) (g : Nat) (u : Ty) : Inhabited (El w g u) := ⟨⟨(.slice none 0 0, [], []), nilDp w u, by simp⟩⟩
theorem El.one (p : El w g u) : p.enc.oneCell' = true := by
  have h := p.2.1
  simp only [DpC] at h
  obtain ⟨a, n, c, h1, _⟩ := h
  have : p.enc = .slice a n c := by
    have h1 : [p.1.1] = [Value.slice a n c] := h1
    simpa [El.enc] using h1
  rw [this]; rfl
theorem El.len (p : El w g u) : p.dat.length ≤ lim := by
  have h := p.2.1
  simp only [DpC] at h
  obtain ⟨a, n, c, h1, h2, h3, h4, h5, _⟩ := h
  have h2 : n = p.dat.length := h2
  omega
end
end Go.Proofs.YtfmdddoidjhipaaGreatDoor.Eng
