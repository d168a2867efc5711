/-
  Marks of slices inside slices, to the number. Plain, no condition.
-/
import Derived.Test.YtdkkjgbgodnopaaPlG
namespace Go.Proofs.Ytdkkjgbgodnopaa
open Go Go.Proofs.Ytdkkjgbgodnopaa.Eng
set_option linter.unusedVariables false
set_option linter.unusedSimpArgs false

section
variable {α : Type} (f : Int → α → α) (c : α → Nat)

def totC (xs : List α) : Nat := (xs.map c).sum

/-- What marks leave. -/
def mkL : Int → List α → List α
  | _, [] => []
  | n, x :: r => f n x :: mkL (n + c x) r

theorem mkL_len : (xs : List α) → (n : Int) → (mkL f c n xs).length = xs.length
  | [], _ => rfl
  | x :: r, n => by simp [mkL, mkL_len r]

theorem totC_append (a b : List α) : totC c (a ++ b) = totC c a + totC c b := by simp [totC]

theorem mkL_append : (a : List α) → (b : List α) → (n : Int) → mkL f c n (a ++ b) = mkL f c n a ++ mkL f c (n + totC c a) b
  | [], b, n => by simp [mkL, totC]
  | x :: a, b, n => by
    simp only [List.cons_append, mkL]
    rw [mkL_append a b]
    have : n + ↑(c x) + ↑(totC c a) = n + ↑(totC c (x :: a)) := by simp [totC]; omega
    rw [this]

theorem mkL_get {xs : List α} {k : Nat} {x : α} (h : xs[k]? = some x) (n : Int) : (mkL f c n xs)[k]? = some (f (n + totC c (xs.take k)) x) := by
  have hk := (List.getElem?_eq_some_iff.1 h).1
  have e : xs = xs.take k ++ x :: xs.drop (k + 1) := by
    have := List.take_append_drop k xs
    rw [List.drop_eq_getElem_cons hk] at this
    rw [(List.getElem?_eq_some_iff.1 h).2] at this
    exact this.symm
  have hl : (mkL f c n (xs.take k)).length = k := by rw [mkL_len]; simp; omega
  conv => lhs; rw [e, mkL_append]
  rw [List.getElem?_append_right (by omega), hl, Nat.sub_self]
  rfl

theorem totC_take {xs : List α} {k : Nat} {x : α} (h : xs[k]? = some x) : totC c (xs.take (k + 1)) = totC c (xs.take k) + c x := by
  rw [List.take_add_one, h]; simp [totC]

theorem totC_le {xs : List α} (k : Nat) : totC c (xs.take k) ≤ totC c xs := by
  conv => rhs; rw [← List.take_append_drop k xs, totC_append]
  omega

/-- A loop that marks one element after the other. -/
theorem markL_eq {step : Int × Int × List α → Option ((Int × Int × List α) ⊕ (Int × List α))} (xs : List α) (n : Int)
    (hs : ∀ (k : Nat) (m : Int) (ys : List α) (x : α), xs[k]? = some x → ys[k]? = some x → ys.length = xs.length → n ≤ m → m + c x ≤ n + totC c xs → step (m, (k : Int), ys) = some (.inl (m + c x, ((k + 1 : Nat) : Int), ys.set k (f m x))))
    (he : ∀ m ys, ys.length = xs.length → step (m, (xs.length : Int), ys) = some (.inr (m, ys))) : iter step (n, 0, xs) = some (n + totC c xs, mkL f c n xs) := by
  have := iter_up (step := step) xs.length (fun k => (n + totC c (xs.take k), (k : Int), mkL f c n (xs.take k) ++ xs.drop k)) (n + totC c xs, mkL f c n xs) (fun k hk => by
    have hg : xs[k]? = some xs[k] := List.getElem?_eq_getElem hk
    have hl : (mkL f c n (xs.take k)).length = k := by rw [mkL_len]; simp; omega
    have h1 : (mkL f c n (xs.take k) ++ xs.drop k)[k]? = some xs[k] := by
      rw [List.getElem?_append_right (by omega), hl, Nat.sub_self, List.getElem?_drop]; simp
    have h2 : totC c (xs.take (k + 1)) ≤ totC c xs := totC_le c _
    have h3 := totC_take c hg
    have := hs k (n + totC c (xs.take k)) (mkL f c n (xs.take k) ++ xs.drop k) xs[k] hg h1 (by rw [List.length_append, hl, List.length_drop]; omega) (by omega) (by omega)
    rw [this]
    congr 2
    refine Prod.ext ?_ (Prod.ext rfl ?_)
    · simp only; rw [h3]; omega
    · simp only
      rw [List.set_append_right _ _ (by omega), hl, Nat.sub_self, List.drop_eq_getElem_cons hk, List.set_cons_zero, List.take_add_one, hg]
      rw [mkL_append]
      simp [mkL]) (by
    have := he (n + totC c (xs.take xs.length)) (mkL f c n (xs.take xs.length) ++ xs.drop xs.length) (by rw [List.length_append, mkL_len]; simp)
    rw [this]; simp)
  simpa [mkL, totC] using this

theorem heldL_eq {step : Int × Int → Option ((Int × Int) ⊕ (Int ⊕ Int))} (xs : List α) (n : Int)
    (hs : ∀ (k : Nat) (m : Int) (x : α), xs[k]? = some x → (mkL f c n xs)[k]? = some (f m x) → n ≤ m → m + c x ≤ n + totC c xs → step (m, (k : Int)) = some (.inl (m + c x, ((k + 1 : Nat) : Int))))
    (he : ∀ m, step (m, (xs.length : Int)) = some (.inr (.inl m))) : iter step (n, 0) = some (.inl (n + totC c xs)) := by
  have := iter_up (step := step) xs.length (fun k => (n + totC c (xs.take k), (k : Int))) (.inl (n + totC c xs)) (fun k hk => by
    have hg : xs[k]? = some xs[k] := List.getElem?_eq_getElem hk
    have h2 : totC c (xs.take (k + 1)) ≤ totC c xs := totC_le c _
    have h3 := totC_take c hg
    rw [hs k _ xs[k] hg (mkL_get f c hg n) (by omega) (by omega), h3]
    congr 3
    omega) (by rw [he]; simp)
  simpa [totC] using this
end

theorem totC_one (xs : List Int) : totC (fun _ : Int => 1) xs = xs.length := by
  unfold totC
  induction xs with
  | nil => rfl
  | cons x r ih => rw [List.map_cons, List.sum_cons, ih, List.length_cons]; omega

/-- Lists' marks. -/
def msL (n : Int) (xs : List (List Int)) : List (List Int) := mkL (fun m x => ms m x.length) List.length n xs

end Go.Proofs.Ytdkkjgbgodnopaa
