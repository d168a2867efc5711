/-
  Placed points, lattice points of a polygon; empty triangles. Plain, no condition.
-/
import Derived.Test.YtgbkkmidloeciaaGreatPlX
namespace Go.Proofs.YtgbkkmidloeciaaGreat
open Go Go.Proofs.YtgbkkmidloeciaaGreat.Eng
open Hull (Pt tn lx at_ at_some at_mem)
set_option linter.unusedVariables false
set_option linter.unusedSimpArgs false
def fnd {S β : Type} (s : S) : Option β → S ⊕ β
  | some r => .inr r
  | none => .inl s
theorem iter_find {S β : Type} {step : S → Option (S ⊕ β)} (n : Nat) (st : Nat → S) (g : Nat → Option β) (fin : β)
    (hs : ∀ k, k < n → step (st k) = some (fnd (st (k + 1)) (g k))) (he : step (st n) = some (.inr fin)) :
    (iter step (st 0) = some fin ∧ ∀ k, k < n → g k = none) ∨ ∃ k r, k < n ∧ g k = some r ∧ iter step (st 0) = some r := by
  have : ∀ (d k : Nat), k + d = n → (iter step (st k) = some fin ∧ ∀ j, k ≤ j → j < n → g j = none) ∨ ∃ j r, j < n ∧ g j = some r ∧ iter step (st k) = some r := by
    intro d
    induction d with
    | zero =>
      intro k hk
      have : k = n := by omega
      subst this
      exact .inl ⟨iter_end he, fun j h1 h2 => absurd h1 (by omega)⟩
    | succ d ih =>
      intro k hk
      have h := hs k (by omega)
      cases hg : g k with
      | some r =>
        rw [hg] at h
        exact .inr ⟨k, r, by omega, hg, iter_end h⟩
      | none =>
        rw [hg] at h
        rw [iter_next h]
        rcases ih (k + 1) (by omega) with ⟨h1, h2⟩ | h1
        · refine .inl ⟨h1, fun j hj hn => ?_⟩
          rcases Nat.lt_or_ge k j with h3 | h3
          · exact h2 j h3 hn
          · rw [show j = k from by omega]; exact hg
        · exact .inr h1
  rcases this n 0 (by omega) with ⟨h1, h2⟩ | h1
  · exact .inl ⟨h1, fun k hk => h2 k (Nat.zero_le _) hk⟩
  · exact .inr h1
/-! Where a point lies. -/
/-- The turn of a point at one side. -/
def sd (P : List Pt) (q : Pt) (k : Nat) : Int := tn (at_ P k) (at_ P ((k + 1) % P.length)) q
def inP (P : List Pt) (q : Pt) : Prop := ∀ k, k < P.length → 0 ≤ sd P q k
instance (P : List Pt) (q : Pt) : Decidable (inP P q) := by unfold inP; infer_instance
def sideSt (P : List Pt) (q : Pt) (k : Nat) : Int := if (List.range k).any (fun j => sd P q j == 0) then 0 else 1
theorem sideSt_succ (P : List Pt) (q : Pt) (k : Nat) : sideSt P q (k + 1) = if sd P q k = 0 then 0 else sideSt P q k := by
  unfold sideSt
  rw [List.range_succ, List.any_append]
  by_cases h : sd P q k = 0
  · simp [h]
  · rw [if_neg h]
    have : (sd P q k == 0) = false := by simp [h]
    simp [this]
/-! Boxes. -/
def lo (f : Pt → Int) (P : List Pt) : Int := P.foldl (fun m q => mn m (f q)) (f (at_ P 0))
def hi (f : Pt → Int) (P : List Pt) : Int := P.foldl (fun m q => mx m (f q)) (f (at_ P 0))
/-- The whole points of the box of a list of points. -/
def box (P : List Pt) : List (Int × Int) := [(lo (·.1) P, hi (·.1) P), (lo (·.2) P, hi (·.2) P)]
def row (x : Int) (a b : Int) : List (List Int) := (rng a b).map fun y => [x, y]
end Go.Proofs.YtgbkkmidloeciaaGreat
