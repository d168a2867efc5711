/-
  Marks of slices inside slices, to the number. Plain, no condition.
-/
import Derived.Test.YtgmlnffeiffaaaaPlG
namespace Go.Proofs.Ytgmlnffeiffaaaa
open Go Go.Proofs.Ytgmlnffeiffaaaa.Eng
set_option linter.unusedVariables false
set_option linter.unusedSimpArgs false
section
variable {α : Type} (f : Int → α → α) (c : α → Nat)
def totC (xs : List α) : Nat := (xs.map c).sum
/-- What marks leave. -/
def mkL : Int → List α → List α
  | _, [] => []
  | n, x :: r => f n x :: mkL (n + c x) r
theorem mkL_len : (xs : List α) → (n : Int) → (mkL f c n xs).length = xs.length
  | [], _ => rfl
  | x :: r, n => by simp [mkL, mkL_len r]
theorem totC_append (a b : List α) : totC c (a ++ b) = totC c a + totC c b := by simp [totC]
theorem mkL_append : (a : List α) → (b : List α) → (n : Int) → mkL f c n (a ++ b) = mkL f c n a ++ mkL f c (n + totC c a) b
  | [], b, n => by simp [mkL, totC]
  | x :: a, b, n => by
    simp only [List.cons_append, mkL]
    rw [mkL_append a b]
    have : n + ↑(c x) + ↑(totC c a) = n + ↑(totC c (x :: a)) := by simp [totC]; omega
    rw [this]
theorem mkL_get {xs : List α} {k : Nat} {x : α} (h : xs[k]? = some x) (n : Int) : (mkL f c n xs)[k]? = some (f (n + totC c (xs.take k)) x) := by
  have hk := (List.getElem?_eq_some_iff.1 h).1
  have e : xs = xs.take k ++ x :: xs.drop (k + 1) := by
    have := List.take_append_drop k xs
    rw [List.drop_eq_getElem_cons hk] at this
    rw [(List.getElem?_eq_some_iff.1 h).2] at this
    exact this.symm
  have hl : (mkL f c n (xs.take k)).length = k := by rw [mkL_len]; simp; omega
  conv => lhs; rw [e, mkL_append]
  rw [List.getElem?_append_right (by omega), hl, Nat.sub_self]
  rfl
theorem totC_take {xs : List α} {k : Nat} {x : α} (h : xs[k]? = some x) : totC c (xs.take (k + 1)) = totC c (xs.take k) + c x := by
  rw [List.take_add_one, h]; simp [totC]
theorem totC_le {xs : List α} (k : Nat) : totC c (xs.take k) ≤ totC c xs := by
  conv => rhs; rw [← List.take_append_drop k xs, totC_append]
  omega
/-- A loop that marks one element after the other. -/
theorem markL_eq {step : Int × Int × List α → Option ((Int × Int × List α) ⊕ (Int × List α))} (xs : List α) (n : Int)
    (hs : ∀ (k : Nat) (m : Int) (ys : List α) (x : α), xs[k]? = some x → ys[k]? = some x → ys.length = xs.length → n ≤ m → m + c x ≤ n + totC c xs → step (m, (k : Int), ys) = some (.inl (m + c x, ((k + 1 : Nat) : Int), ys.set k (f m x))))
    (he : ∀ m ys, ys.length = xs.length → step (m, (xs.length : Int), ys) = some (.inr (m, ys))) : iter step (n, 0, xs) = some (n + totC c xs, mkL f c n xs) := by
  have := iter_up (step := step) xs.length (fun k => (n + totC c (xs.take k), (k : Int), mkL f c n (xs.take k) ++ xs.drop k)) (n + totC c xs, mkL f c n xs) (fun k hk => by
    have hg : xs[k]? = some xs[k] := List.getElem?_eq_getElem hk
    have hl : (mkL f c n (xs.take k)).length = k := by rw [mkL_len]; simp; omega
    have h1 : (mkL f c n (xs.take k) ++ xs.drop k)[k]? = some xs[k] := by
      rw [List.getElem?_append_right (by omega), hl, Nat.sub_self, List.getElem?_drop]; simp
    have h2 : totC c (xs.take (k + 1)) ≤ totC c xs := totC_le c _
    have h3 := totC_take c hg
    have := hs k (n + totC c (xs.take k)) (mkL f c n (xs.take k) ++ xs.drop k) xs[k] hg h1 (by rw [List.length_append, hl, List.length_drop]; omega) (by omega) (by omega)
    rw [this]
    congr 2
    refine Prod.ext ?_ (Prod.ext rfl ?_)
    · simp only; rw [h3]; omega
    · simp only
      rw [List.set_append_right _ _ (by omega), hl, Nat.sub_self, List.drop_eq_getElem_cons hk, List.set_cons_zero, List.take_add_one, hg]
      rw [mkL_append]
      simp [mkL]) (by
    have := he (n + totC c (xs.take xs.length)) (mkL f c n (xs.take xs.length) ++ xs.drop xs.length) (by rw [List.length_append, mkL_len]; simp)
    rw [this]; simp)
  simpa [mkL, totC] using this
end
theorem totC_one (xs : List Int) : totC (fun _ : Int => 1) xs = xs.length := by
  unfold totC
  induction xs with
  | nil => rfl
  | cons x r ih => rw [List.map_cons, List.sum_cons, ih, List.length_cons]; omega
theorem d_markIntS_ms {xs : List Int} (hl : xs.length ≤ 2097152) {n : Int} (h0 : 0 ≤ n) (h1 : n ≤ 2199023255552) : d_markIntS xs n = some (ms n xs.length, n + xs.length) := by
  have := markL_eq (step := d_markIntS_s) (fun m _ => m) (fun _ => 1) xs n (fun k m ys x hx hy hyl hm ht => by
    have hk := (List.getElem?_eq_some_iff.1 hx).1
    rw [totC_one] at ht
    have ht : m + 1 ≤ n + (xs.length : Int) := ht
    unfold d_markIntS_s
    simp only
    rw [show decide ((k : Int) < (ys.length : Int)) = true from by simp; omega, cond_true, inIdx_nat (by omega)]
    simp only [Option.bind_some, Int.toNat_natCast]
    rw [hy]
    simp only [Option.bind_some, setInt]
    rw [wrap_id (x := m + 1) (by omega) (by omega), wrap_id (x := (k : Int) + 1) (by omega) (by omega)]
    rfl) (fun m ys hyl => by
    unfold d_markIntS_s
    simp only
    rw [show decide ((xs.length : Int) < (ys.length : Int)) = false from by simp; omega, cond_false])
  unfold d_markIntS
  rw [this]
  simp only [Option.bind_some, totC_one]
  have : mkL (fun m _ => m) (fun _ => 1) n xs = ms n xs.length := by
    refine List.ext_getElem? fun i => ?_
    by_cases hi : i < xs.length
    · rw [mkL_get _ _ (List.getElem?_eq_getElem hi), ms_get hi]
      rw [totC_one, List.length_take]; simp; omega
    · rw [List.getElem?_eq_none (by rw [mkL_len]; omega), List.getElem?_eq_none (by rw [ms_len]; omega)]
  rw [this]
end Go.Proofs.Ytgmlnffeiffaaaa
