/-
  Placed points, lattice points of a polygon; empty triangles. Plain, no condition.
-/
import Derived.Test.YtednadbkcpcmfaaPlX
namespace Go.Proofs.Ytednadbkcpcmfaa
open Go Go.Proofs.Ytednadbkcpcmfaa.Eng
open Hull (Pt tn lx at_ at_some at_mem)
set_option linter.unusedVariables false
set_option linter.unusedSimpArgs false
theorem slEqual_eq {xs ys : List Int} (hl : xs.length ≤ lim) : g_slices_Equal xs ys = some (xs == ys) := by
  unfold g_slices_Equal
  rw [cond_ite]
  by_cases h : xs.length = ys.length
  · rw [if_neg (by simp [h]), iter_eqs xs ys (fun a b => a == b) h (fun k x y hx hy => ?_) (by simp [g_slices_Equal_s4])]
    · rw [eqL_beq]
      cases xs == ys <;> rfl
    · have hlt := len_lt hx
      have hd : decide ((k : Int) < (xs.length : Int)) = true := by simp; omega
      simp only [g_slices_Equal_s4, hd, cond_true, idx_some hx, idx_some hy, Option.bind_some, wrap_succ (Nat.le_trans (Nat.le_of_lt hlt) hl)]
      by_cases hxy : x = y
      · simp [hxy]
      · have hb : (x == y) = false := by simp [hxy]
        simp [bne, hb]
  · rw [if_pos (by simp; omega)]
    congr 1
    exact (beq_eq_false_iff_ne.2 fun e => h (by rw [e])).symm
/-! Where a point lies. -/
/-- The turn of a point at one side. -/
def sd (P : List Pt) (q : Pt) (k : Nat) : Int := tn (at_ P k) (at_ P ((k + 1) % P.length)) q
def inP (P : List Pt) (q : Pt) : Prop := ∀ k, k < P.length → 0 ≤ sd P q k
instance (P : List Pt) (q : Pt) : Decidable (inP P q) := by unfold inP; infer_instance
/-! Boxes. -/
def lo (f : Pt → Int) (P : List Pt) : Int := P.foldl (fun m q => mn m (f q)) (f (at_ P 0))
def hi (f : Pt → Int) (P : List Pt) : Int := P.foldl (fun m q => mx m (f q)) (f (at_ P 0))
/-- The whole points of the box of a list of points. -/
def box (P : List Pt) : List (Int × Int) := [(lo (·.1) P, hi (·.1) P), (lo (·.2) P, hi (·.2) P)]
def row (x : Int) (a b : Int) : List (List Int) := (rng a b).map fun y => [x, y]
end Go.Proofs.Ytednadbkcpcmfaa
