/-
  Plain: what many proofs use. No condition.
-/
import Derived.Test.YtfknaeamhcpfgaaGreatPl3
namespace Go.Proofs.YtfknaeamhcpfgaaGreat
open Go Go.Proofs.YtfknaeamhcpfgaaGreat.Eng
set_option linter.unusedVariables false
set_option linter.unusedSimpArgs false
/-- A loop whose states are known beforehand. -/
theorem iter_up {S β : Type} {step : S → Option (S ⊕ β)} (n : Nat) (st : Nat → S) (r : β) (hs : ∀ k, k < n → step (st k) = some (.inl (st (k + 1)))) (he : step (st n) = some (.inr r)) : iter step (st 0) = some r := by
  have : ∀ (d k : Nat), k + d = n → iter step (st k) = some r := by
    intro d
    induction d with
    | zero => intro k hk; have : k = n := by omega
              subst this; exact iter_end he
    | succ d ih => intro k hk; rw [iter_next (hs k (by omega))]; exact ih (k + 1) (by omega)
  exact this n 0 (by omega)
theorem take_map_succ {α β : Type} {xs : List α} (f : α → β) {k : Nat} {x : α} (h : xs[k]? = some x) : (xs.take (k + 1)).map f = (xs.take k).map f ++ [f x] := by
  rw [List.take_add_one, h]; simp
/-- Lists that the laws let by. -/
structure FitLL (x : List (List Int)) : Prop where
  len : x.length ≤ 1048576
  each : ∀ y ∈ x, y.length ≤ 1048576
theorem FitLL.lim {x : List (List Int)} (h : FitLL x) : x.length ≤ Eng.lim := Nat.le_trans h.len (by decide)
theorem sum_mem {l : List Nat} {n : Nat} (h : n ∈ l) : n ≤ l.sum := by
  induction l with
  | nil => simp at h
  | cons a l ih =>
    simp only [List.sum_cons]
    rcases List.mem_cons.1 h with rfl | h
    · omega
    · have := ih h; omega
theorem copyInts_eq {v : List Int} (h : v.length * 8 ≤ lim) : i_copyInts v = some v := by
  simp only [i_copyInts, appD_some (b := 8) (xs := []) (ys := v) (by simpa using h) (by simp; omega), Option.bind_some, List.nil_append]
theorem lim_of {n : Nat} (h : n ≤ 1048576) : n ≤ lim := Nat.le_trans h (by decide)
end Go.Proofs.YtfknaeamhcpfgaaGreat
