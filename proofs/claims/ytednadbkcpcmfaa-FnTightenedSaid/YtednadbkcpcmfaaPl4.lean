/-
  Plain: what many proofs use. No condition.
-/
import Derived.Test.YtednadbkcpcmfaaPl3
namespace Go.Proofs.Ytednadbkcpcmfaa
open Go Go.Proofs.Ytednadbkcpcmfaa.Eng
set_option linter.unusedVariables false
set_option linter.unusedSimpArgs false
/-- A loop whose states are known beforehand. -/
theorem iter_up {S β : Type} {step : S → Option (S ⊕ β)} (n : Nat) (st : Nat → S) (r : β) (hs : ∀ k, k < n → step (st k) = some (.inl (st (k + 1)))) (he : step (st n) = some (.inr r)) : iter step (st 0) = some r := by
  have : ∀ (d k : Nat), k + d = n → iter step (st k) = some r := by
    intro d
    induction d with
    | zero => intro k hk; have : k = n := by omega
              subst this; exact iter_end he
    | succ d ih => intro k hk; rw [iter_next (hs k (by omega))]; exact ih (k + 1) (by omega)
  exact this n 0 (by omega)
theorem take_map_succ {α β : Type} {xs : List α} (f : α → β) {k : Nat} {x : α} (h : xs[k]? = some x) : (xs.take (k + 1)).map f = (xs.take k).map f ++ [f x] := by
  rw [List.take_add_one, h]; simp
/-- Lists that the laws let by. -/
structure FitLL (x : List (List Int)) : Prop where
  len : x.length ≤ 1048576
  each : ∀ y ∈ x, y.length ≤ 1048576
theorem FitLL.lim {x : List (List Int)} (h : FitLL x) : x.length ≤ Eng.lim := Nat.le_trans h.len (by decide)
theorem quo_some {a b : Int} (hb : 0 < b) (ha : Sm a) : quoI .i64 a b = some (a.tdiv b) := by
  have hne : b ≠ 0 := by omega
  have h1 : (a.tdiv b).natAbs ≤ a.natAbs := Int.natAbs_tdiv_le_natAbs a b
  unfold Sm at ha
  simp only [quoI, if_neg hne]
  rw [wrap_id (by omega) (by omega)]
/-- The bound, rounded down. -/
def flr (a b : Int) : Int := if a.tmod b < 0 then a.tdiv b - 1 else a.tdiv b
theorem down_eq {a b : Int} (hb : 0 < b) (ha : Sm a) : i_down a b = some (flr a b) := by
  have h1 : (a.tdiv b).natAbs ≤ a.natAbs := Int.natAbs_tdiv_le_natAbs a b
  have ha' := ha
  unfold Sm at ha'
  simp only [i_down, quo_some hb ha, remI_some (show b ≠ 0 by omega), Option.bind_some, flr]
  by_cases h : a.tmod b < 0
  · have hd : decide (a.tmod b < 0) = true := by simpa using h
    rw [hd, cond_true, if_pos h, wrap_id (by omega) (by omega)]
  · have hd : decide (a.tmod b < 0) = false := by simpa using h
    rw [hd, cond_false, if_neg h]
theorem l3Floor_eq {a b : Int} (hb : 0 < b) (ha : Sm a) : s_l3Floor a b = some (flr a b) := down_eq hb ha
theorem copyInts_eq {v : List Int} (h : v.length * 8 ≤ lim) : i_copyInts v = some v := by
  simp only [i_copyInts, appD_some (b := 8) (xs := []) (ys := v) (by simpa using h) (by simp; omega), Option.bind_some, List.nil_append]
end Go.Proofs.Ytednadbkcpcmfaa
