/-
  Placed points, lattice points of a polygon; empty triangles. Plain, no condition.
-/
import Derived.Test.YtfknaeamhcpfgaaGreatPlX
namespace Go.Proofs.YtfknaeamhcpfgaaGreat
open Go Go.Proofs.YtfknaeamhcpfgaaGreat.Eng
open Hull (Pt tn lx at_ at_some at_mem)
set_option linter.unusedVariables false
set_option linter.unusedSimpArgs false
/-! Where a point lies. -/
/-- The turn of a point at one side. -/
def sd (P : List Pt) (q : Pt) (k : Nat) : Int := tn (at_ P k) (at_ P ((k + 1) % P.length)) q
def inP (P : List Pt) (q : Pt) : Prop := ∀ k, k < P.length → 0 ≤ sd P q k
instance (P : List Pt) (q : Pt) : Decidable (inP P q) := by unfold inP; infer_instance
/-! Boxes. -/
def lo (f : Pt → Int) (P : List Pt) : Int := P.foldl (fun m q => mn m (f q)) (f (at_ P 0))
def hi (f : Pt → Int) (P : List Pt) : Int := P.foldl (fun m q => mx m (f q)) (f (at_ P 0))
/-- The whole points of the box of a list of points. -/
def box (P : List Pt) : List (Int × Int) := [(lo (·.1) P, hi (·.1) P), (lo (·.2) P, hi (·.2) P)]
def row (x : Int) (a b : Int) : List (List Int) := (rng a b).map fun y => [x, y]
end Go.Proofs.YtfknaeamhcpfgaaGreat
