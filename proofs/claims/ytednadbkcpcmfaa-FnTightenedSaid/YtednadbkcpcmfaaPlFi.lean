/-
  Loops that stop at the first find. Plain, no condition.
-/
import Derived.Test.YtednadbkcpcmfaaPl4
namespace Go.Proofs.Ytednadbkcpcmfaa
open Go Go.Proofs.Ytednadbkcpcmfaa.Eng
set_option linter.unusedVariables false
set_option linter.unusedSimpArgs false
/-! Loops that stop at the first find. -/
def fnG {β γ : Type} (fin : β) : Option γ → β ⊕ γ
  | some r => .inr r
  | none => .inl fin
def fnS {S β γ : Type} (s : S) : Option γ → S ⊕ (β ⊕ γ)
  | some r => .inr (.inr r)
  | none => .inl s
theorem iter_first {S β γ : Type} {step : S → Option (S ⊕ (β ⊕ γ))} (n : Nat) (st : Nat → S) (g : Nat → Option γ) (fin : β)
    (hs : ∀ k, k < n → step (st k) = some (fnS (st (k + 1)) (g k))) (he : step (st n) = some (.inr (.inl fin))) : iter step (st 0) = some (fnG fin ((List.range n).findSome? g)) := by
  have : ∀ (d k : Nat), k + d = n → iter step (st k) = some (fnG fin ((List.range' k d).findSome? g)) := by
    intro d
    induction d with
    | zero => intro k hk; have : k = n := by omega
              subst this; exact iter_end he
    | succ d ih =>
      intro k hk
      have h := hs k (by omega)
      rw [List.range'_succ, List.findSome?_cons]
      cases hg : g k with
      | some r => rw [hg] at h; exact iter_end h
      | none => rw [hg] at h; rw [iter_next h]; exact ih (k + 1) (by omega)
  rw [List.range_eq_range']
  exact this n 0 (by omega)
end Go.Proofs.Ytednadbkcpcmfaa
