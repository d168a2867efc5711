/-
  Reflexive polygons: the sides have height one. Plain, no condition.
-/
import Derived.Test.YtgbkkmidloeciaaGreatPlHl
namespace Go.Proofs.YtgbkkmidloeciaaGreat
open Go Go.Proofs.YtgbkkmidloeciaaGreat.Eng Hull
set_option linter.unusedVariables false
set_option linter.unusedSimpArgs false
def sumF (f : Nat → Int) : Nat → Int
  | 0 => 0
  | n + 1 => sumF f n + f n
theorem sumF_add (f g : Nat → Int) : (n : Nat) → sumF (fun k => f k + g k) n = sumF f n + sumF g n
  | 0 => rfl
  | n + 1 => by simp only [sumF, sumF_add f g n]; omega
theorem sumF_sub (f g : Nat → Int) : (n : Nat) → sumF (fun k => f k - g k) n = sumF f n - sumF g n
  | 0 => rfl
  | n + 1 => by simp only [sumF, sumF_sub f g n]; omega
theorem sumF_le (f : Nat → Int) : (n : Nat) → (∀ k, k < n → 0 ≤ f k) → 0 ≤ sumF f n ∧ ∀ k, k < n → f k ≤ sumF f n
  | 0, _ => ⟨Int.le_refl _, fun k h => absurd h (by omega)⟩
  | n + 1, h => by
    have ih := sumF_le f n fun k hk => h k (by omega)
    have h0 := h n (by omega)
    refine ⟨by simp only [sumF]; omega, fun k hk => ?_⟩
    simp only [sumF]
    by_cases e : k = n
    · subst e; omega
    · have := ih.2 k (by omega); omega
theorem sumF_mod (f g : Nat → Int) : (n : Nat) → (∀ k, k < n → f k % 2 = g k % 2) → sumF f n % 2 = sumF g n % 2
  | 0, _ => rfl
  | n + 1, h => by
    have ih := sumF_mod f g n fun k hk => h k (by omega)
    have h0 := h n (by omega)
    simp only [sumF]; omega
theorem sumF_congr (f g : Nat → Int) : (n : Nat) → (∀ k, k < n → f k = g k) → sumF f n = sumF g n
  | 0, _ => rfl
  | n + 1, h => by
    have ih := sumF_congr f g n fun k hk => h k (by omega)
    have h0 := h n (by omega)
    simp only [sumF]; omega
theorem sumF_front (f : Nat → Int) : (n : Nat) → sumF f (n + 1) = f 0 + sumF (fun k => f (k + 1)) n
  | 0 => by simp [sumF]
  | n + 1 => by
    have := sumF_front f n
    simp only [sumF] at *
    omega
theorem sumF_rot (f : Nat → Int) (n : Nat) : sumF (fun k => f ((k + 1) % (n + 1))) (n + 1) = sumF f (n + 1) := by
  rw [sumF_front f n]
  show sumF (fun k => f ((k + 1) % (n + 1))) n + f ((n + 1) % (n + 1)) = _
  rw [Nat.mod_self, sumF_congr (fun k => f ((k + 1) % (n + 1))) (fun k => f (k + 1)) n fun k hk => by rw [Nat.mod_eq_of_lt (by omega)]]
  omega
theorem sumF_bd (f : Nat → Int) (m : Int) : (n : Nat) → (∀ k, k < n → -m ≤ f k ∧ f k ≤ m) → -(m * n) ≤ sumF f n ∧ sumF f n ≤ m * n
  | 0, _ => by simp [sumF]
  | n + 1, h => by
    have ih := sumF_bd f m n fun k hk => h k (by omega)
    have h0 := h n (by omega)
    have e : m * ((n + 1 : Nat) : Int) = m * (n : Int) + m := by rw [Int.natCast_add, Int.mul_add]; simp
    simp only [sumF]; omega
/-! Parity. -/
theorem gcd_par (x y : Int) : ((Int.gcd x y : Nat) : Int) % 2 = if x % 2 = 0 ∧ y % 2 = 0 then 0 else 1 := by
  by_cases h : x % 2 = 0 ∧ y % 2 = 0
  · rw [if_pos h]
    have h1 : (2 : Int) ∣ x := Int.dvd_of_emod_eq_zero h.1
    have h2 : (2 : Int) ∣ y := Int.dvd_of_emod_eq_zero h.2
    have := Int.dvd_coe_gcd h1 h2
    exact Int.emod_eq_zero_of_dvd this
  · rw [if_neg h]
    have : ¬ ((Int.gcd x y : Nat) : Int) % 2 = 0 := fun e => h ⟨Int.emod_eq_zero_of_dvd (Int.dvd_trans (Int.dvd_of_emod_eq_zero e) (Int.gcd_dvd_left ..)), Int.emod_eq_zero_of_dvd (Int.dvd_trans (Int.dvd_of_emod_eq_zero e) (Int.gcd_dvd_right ..))⟩
    omega
def zp (q : Pt) : Int := if q.1 % 2 = 0 ∧ q.2 % 2 = 0 then 1 else 0
theorem mul_par (x y : Int) : (x * y) % 2 = if x % 2 = 0 ∨ y % 2 = 0 then 0 else 1 := by
  rw [Int.mul_emod]
  rcases Int.emod_two_eq x with h | h <;> rcases Int.emod_two_eq y with k | k <;> simp [h, k]
theorem side_par (a b : Pt) : (a.1 * b.2 - a.2 * b.1 + (Int.gcd (b.1 - a.1) (b.2 - a.2) : Int)) % 2 = (zp a + zp b) % 2 := by
  have h1 := mul_par a.1 b.2
  have h2 := mul_par a.2 b.1
  have h3 := gcd_par (b.1 - a.1) (b.2 - a.2)
  generalize a.1 * b.2 = u at *
  generalize a.2 * b.1 = v at *
  generalize ((Int.gcd (b.1 - a.1) (b.2 - a.2) : Nat) : Int) = g at *
  unfold zp
  rcases Int.emod_two_eq a.1 with p | p <;> rcases Int.emod_two_eq a.2 with q | q <;> rcases Int.emod_two_eq b.1 with r | r <;> rcases Int.emod_two_eq b.2 with s | s <;>
    simp only [p, q, r, s] at h1 h2 ⊢ <;> simp only [show (b.1 - a.1) % 2 = _ from by rw [Int.sub_emod, p, r], show (b.2 - a.2) % 2 = _ from by rw [Int.sub_emod, q, s]] at h3 <;> simp at h1 h2 h3 ⊢ <;> omega
/-! The sides. -/
def cS (P : List Pt) (k : Nat) : Int := (at_ P k).1 * (at_ P ((k + 1) % P.length)).2 - (at_ P k).2 * (at_ P ((k + 1) % P.length)).1
def gS (P : List Pt) (k : Nat) : Int := (Int.gcd ((at_ P ((k + 1) % P.length)).1 - (at_ P k).1) ((at_ P ((k + 1) % P.length)).2 - (at_ P k).2) : Nat)
theorem even_sum {P : List Pt} (h : 0 < P.length) : (sumF (cS P) P.length - sumF (gS P) P.length) % 2 = 0 := by
  have h1 : sumF (fun k => cS P k + gS P k) P.length % 2 = sumF (fun k => zp (at_ P k) + zp (at_ P ((k + 1) % P.length))) P.length % 2 := sumF_mod _ _ _ fun k _ => side_par _ _
  rw [sumF_add, sumF_add] at h1
  obtain ⟨n, hn⟩ : ∃ n, P.length = n + 1 := ⟨P.length - 1, by omega⟩
  have h2 := sumF_rot (fun k => zp (at_ P k)) n
  rw [← hn] at h2
  rw [h2] at h1
  omega
theorem gS_dvd (P : List Pt) (k : Nat) : gS P k ∣ cS P k := by
  unfold gS cS
  generalize at_ P k = a
  generalize at_ P ((k + 1) % P.length) = b
  have h1 : ((Int.gcd (b.1 - a.1) (b.2 - a.2) : Nat) : Int) ∣ b.1 - a.1 := Int.gcd_dvd_left ..
  have h2 : ((Int.gcd (b.1 - a.1) (b.2 - a.2) : Nat) : Int) ∣ b.2 - a.2 := Int.gcd_dvd_right ..
  have e : a.1 * b.2 - a.2 * b.1 = a.1 * (b.2 - a.2) - a.2 * (b.1 - a.1) := by rw [Int.mul_sub, Int.mul_sub, Int.mul_comm a.2 a.1]; omega
  rw [e]
  exact Int.dvd_sub (Int.dvd_mul_of_dvd_right h2) (Int.dvd_mul_of_dvd_right h1)
/-- All heights are one if the sides' own points make up the area but for the one point within. -/
theorem reflex_core {P : List Pt} (h : 0 < P.length) (hc : ∀ k, k < P.length → 0 < cS P k) (hI : (sumF (cS P) P.length - sumF (gS P) P.length + 2).tdiv 2 = 1) :
    ∀ k, k < P.length → cS P k = gS P k := by
  have he := even_sum h
  have hnn : ∀ k, k < P.length → 0 ≤ cS P k - gS P k := fun k hk => by
    have := Int.le_of_dvd (hc k hk) (gS_dvd P k)
    omega
  have hs := sumF_le (fun k => cS P k - gS P k) P.length hnn
  rw [sumF_sub] at hs
  have e1 := hs.1
  have e0 : sumF (cS P) P.length - sumF (gS P) P.length = 0 := by
    rw [Int.tdiv_eq_ediv_of_nonneg (by omega)] at hI
    omega
  intro k hk
  have h3 : cS P k - gS P k ≤ sumF (cS P) P.length - sumF (gS P) P.length := hs.2 k hk
  have h4 := hnn k hk
  omega
end Go.Proofs.YtgbkkmidloeciaaGreat
