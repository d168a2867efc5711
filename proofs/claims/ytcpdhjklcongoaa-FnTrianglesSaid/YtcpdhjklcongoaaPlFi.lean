/-
  Loops that stop at the first find. Plain, no condition.
-/
import Derived.Test.YtcpdhjklcongoaaPl4
namespace Go.Proofs.Ytcpdhjklcongoaa
open Go Go.Proofs.Ytcpdhjklcongoaa.Eng
set_option linter.unusedVariables false
set_option linter.unusedSimpArgs false
/-! Loops that stop at the first find. -/
def fnG {β γ : Type} (fin : β) : Option γ → β ⊕ γ
  | some r => .inr r
  | none => .inl fin
def fnS {S β γ : Type} (s : S) : Option γ → S ⊕ (β ⊕ γ)
  | some r => .inr (.inr r)
  | none => .inl s
theorem iter_first {S β γ : Type} {step : S → Option (S ⊕ (β ⊕ γ))} (n : Nat) (st : Nat → S) (g : Nat → Option γ) (fin : β)
    (hs : ∀ k, k < n → step (st k) = some (fnS (st (k + 1)) (g k))) (he : step (st n) = some (.inr (.inl fin))) : iter step (st 0) = some (fnG fin ((List.range n).findSome? g)) := by
  have : ∀ (d k : Nat), k + d = n → iter step (st k) = some (fnG fin ((List.range' k d).findSome? g)) := by
    intro d
    induction d with
    | zero => intro k hk; have : k = n := by omega
              subst this; exact iter_end he
    | succ d ih =>
      intro k hk
      have h := hs k (by omega)
      rw [List.range'_succ, List.findSome?_cons]
      cases hg : g k with
      | some r => rw [hg] at h; exact iter_end h
      | none => rw [hg] at h; rw [iter_next h]; exact ih (k + 1) (by omega)
  rw [List.range_eq_range']
  exact this n 0 (by omega)
theorem range_first {α γ : Type} (d : α) (f : α → Option γ) : (L : List α) → (List.range L.length).findSome? (fun k => f (L.getD k d)) = L.findSome? f
  | [] => rfl
  | x :: L => by
    rw [List.length_cons, List.range_succ_eq_map, List.findSome?_cons, List.findSome?_map, List.findSome?_cons]
    have := range_first d f L
    have e : ((fun k => f ((x :: L).getD k d)) ∘ Nat.succ) = fun k => f (L.getD k d) := by funext k; rfl
    rw [e, this]
    rfl
theorem first_if {α γ : Type} (p : α → Bool) (g : α → γ) : (L : List α) → L.findSome? (fun x => if p x then some (g x) else none) = (L.find? p).map g
  | [] => rfl
  | x :: L => by
    rw [List.findSome?_cons, List.find?_cons]
    cases h : p x with
    | true => rfl
    | false => exact first_if p g L
end Go.Proofs.Ytcpdhjklcongoaa
