/-
  Plain: points of a cone between neighboring rays; cones met, told. No condition.
-/
import Derived.Test.YtdkkjgbgodnopaaPlHe
import Derived.Test.YtdkkjgbgodnopaaPlE
namespace Go.Proofs.Ytdkkjgbgodnopaa
open Go Go.Proofs.Ytdkkjgbgodnopaa.Eng
set_option linter.unusedVariables false
set_option linter.unusedSimpArgs false

/-- The last vector of a chain is the cone's. -/
theorem ch_last {c d : Int} (hv : Pv c d) : ∀ (r : List (List Int)) (a b : Int) (u : List Int), Ch c d ([a, b] :: u :: r) → ([a, b] :: u :: r).getLast? = some [c, d]
  | [], a, b, u, h => by
    obtain ⟨⟨a1, b1, x, y, e1, rfl, _, hn⟩, a2, b2, e2, p2, h0⟩ := h
    simp only [List.cons.injEq, and_true] at e1 e2
    obtain ⟨rfl, rfl⟩ := e1
    obtain ⟨rfl, rfl⟩ := e2
    have hp := hn.hi
    have ho := hn.one
    rcases prim_par p2 hv h0 with ⟨rfl, rfl⟩ | ⟨e1, e2⟩
    · rfl
    · exfalso
      have : crs a b c d = - crs a b x y := by rw [e1, e2]; unfold crs; grind
      omega
  | w :: r, a, b, u, h => by
    obtain ⟨⟨a1, b1, x, y, e1, rfl, _, hn⟩, h2⟩ := h
    have := ch_last hv r x y w h2
    rw [← this]
    rfl

/-- Vectors of a chain go round. -/
theorem chn_pos {L : List (List Int)} (h : Chn L) (h2 : ∀ t ∈ turns L, 2 ≤ t) : ∀ (n p : Nat), p + n + 1 < L.length → 0 ≤ crsL (L.getD p []) (L.getD (p + n) []) ∧ crsL (L.getD p []) (L.getD (p + n) []) + 1 ≤ crsL (L.getD p []) (L.getD (p + n + 1) [])
  | 0, p, hp => by
    obtain ⟨a, b, g0, e0, p0⟩ := h.at (k := p) (by omega)
    obtain ⟨x, y, g1, e1, p1⟩ := h.at (k := p + 1) (by omega)
    have o1 := h.one p _ _ g0 g1
    rw [Nat.add_zero, crsL_self, e0, e1, o1]
    omega
  | n + 1, p, hp => by
    obtain ⟨i1, i2⟩ := chn_pos h h2 n p (by omega)
    obtain ⟨a, b, g0, e0, p0⟩ := h.at (k := p + n) (by omega)
    obtain ⟨x, y, g1, e1, p1⟩ := h.at (k := p + n + 1) (by omega)
    obtain ⟨z, w, g2, e2, p2⟩ := h.at (k := p + n + 2) (by omega)
    obtain ⟨u, v, g3, e3, p3⟩ := h.at (k := p) (by omega)
    have o1 := h.one (p + n) _ _ g0 g1
    have o2 := h.one (p + n + 1) _ _ g1 g2
    have hg : (turns L)[p + n]? = some (crsL (L.getD (p + n) []) (L.getD (p + n + 2) [])) := turns_get (by omega)
    have ht := h2 _ (List.mem_of_getElem? hg)
    show 0 ≤ crsL (L.getD p []) (L.getD (p + n + 1) []) ∧ crsL (L.getD p []) (L.getD (p + n + 1) []) + 1 ≤ crsL (L.getD p []) (L.getD (p + n + 2) [])
    rw [e0, e3] at i1
    rw [e0, e1, e3] at i2
    rw [e0, e2] at ht
    rw [e1, e2, e3]
    have := plucker a b x y z w u v
    have q1 : crs a b x y = 1 := o1
    have q2 : crs x y z w = 1 := o2
    have n1 : crs z w u v = - crs u v z w := by unfold crs; grind
    have n2 : crs x y u v = - crs u v x y := by unfold crs; grind
    have n3 : crs a b u v = - crs u v a b := by unfold crs; grind
    rw [q1, q2, n1, n2, n3] at this
    have i1 : 0 ≤ crs u v a b := i1
    have i2 : crs u v a b + 1 ≤ crs u v x y := i2
    have ht : 2 ≤ crs a b z w := ht
    show 0 ≤ crs u v x y ∧ crs u v x y + 1 ≤ crs u v z w
    have hmul : 2 * crs u v x y ≤ crs a b z w * crs u v x y := Int.mul_le_mul_of_nonneg_right ht (by omega)
    have e : crs a b z w * - crs u v x y = - (crs a b z w * crs u v x y) := by grind
    omega

theorem chn_lt {L : List (List Int)} (h : Chn L) (h2 : ∀ t ∈ turns L, 2 ≤ t) {p q : Nat} (hpq : p < q) (hq : q < L.length) : 1 ≤ crsL (L.getD p []) (L.getD q []) := by
  obtain ⟨n, rfl⟩ : ∃ n, q = p + n + 1 := ⟨q - p - 1, by omega⟩
  have := chn_pos h h2 n p hq
  omega

theorem crsL_neg (u v : List Int) : crsL u v = - crsL v u := by unfold crsL; grind

/-- The pair found. -/
def At (x : List Int) (L : List (List Int)) (k : Nat) : Prop := 0 ≤ crsL x (L.getD (k + 1) []) ∧ 0 ≤ crsL (L.getD k []) x

theorem exR_found {x : List Int} {L : List (List Int)} : ∀ (n k : Nat) (out : List Int), (∃ j, k ≤ j ∧ j < k + n ∧ At x L j) →
    ∃ j, k ≤ j ∧ j < k + n ∧ At x L j ∧ exR x L n k out = (out.set j (crsL x (L.getD (j + 1) []))).set (j + 1) (crsL (L.getD j []) x)
  | 0, k, out, h => by obtain ⟨j, h1, h2, _⟩ := h; omega
  | n + 1, k, out, h => by
    simp only [exR]
    by_cases hk : At x L k
    · have hk' : 0 ≤ crsL x (L.getD (k + 1) []) ∧ 0 ≤ crsL (L.getD k []) x := hk
      rw [if_pos hk']
      exact ⟨k, Nat.le_refl _, by omega, hk, rfl⟩
    · have hk' : ¬ (0 ≤ crsL x (L.getD (k + 1) []) ∧ 0 ≤ crsL (L.getD k []) x) := hk
      rw [if_neg hk']
      obtain ⟨j, h1, h2, h3⟩ := h
      have hne : j ≠ k := fun he => hk (he ▸ h3)
      obtain ⟨i, k1, k2, k3, k4⟩ := exR_found n (k + 1) out ⟨j, by omega, by omega, h3⟩
      exact ⟨i, by omega, by omega, k3, k4⟩

/-- A point of the cone lies between neighbors. -/
theorem at_ex {x : List Int} {L : List (List Int)} (m : Nat) (h0 : 0 ≤ crsL (L.getD 0 []) x) (hm : 0 ≤ crsL x (L.getD (m + 1) [])) : ∃ j, j < m + 1 ∧ At x L j := by
  by_cases h : ∃ j, j < m + 1 ∧ At x L j
  · exact h
  · exfalso
    have all : ∀ j, j < m + 1 → 0 ≤ crsL (L.getD j []) x := fun j => by
      induction j with
      | zero => intro _; exact h0
      | succ j ih =>
        intro hj
        have hq := ih (by omega)
        have hn : ¬ 0 ≤ crsL x (L.getD (j + 1) []) := fun hc => h ⟨j, by omega, hc, hq⟩
        have := crsL_neg x (L.getD (j + 1) [])
        omega
    exact h ⟨m, by omega, hm, all m (by omega)⟩

/-- The two parts make the point. -/
theorem parts {a b x y p q : Int} (h : crs a b x y = 1) : crs p q x y * a + crs a b p q * x = p ∧ crs p q x y * b + crs a b p q * y = q := by
  unfold crs at *
  constructor <;> grind

/-! Cones met. -/

theorem inCn_iff {a b x y p q : Int} : inCn ([a, b], [x, y]) [p, q] = true ↔ 0 ≤ crs a b p q ∧ 0 ≤ crs p q x y := by
  simp only [inCn, Bool.and_eq_true, decide_eq_true_eq]
  exact Iff.rfl

theorem combine {u0 u1 v0 v1 p q a b : Int} (hD : 0 < crs u0 u1 v0 v1) (h1 : 0 ≤ crs u0 u1 p q) (h2 : 0 ≤ crs p q v0 v1) (k1 : 0 ≤ crs a b u0 u1) (k2 : 0 ≤ crs a b v0 v1) : 0 ≤ crs a b p q := by
  have e : crs u0 u1 v0 v1 * crs a b p q = crs p q v0 v1 * crs a b u0 u1 + crs u0 u1 p q * crs a b v0 v1 := by unfold crs; grind
  have a1 := Int.mul_nonneg h2 k1
  have a2 := Int.mul_nonneg h1 k2
  rcases Int.lt_or_le (crs a b p q) 0 with h | h
  · have := Int.mul_neg_of_pos_of_neg hD h
    omega
  · exact h

theorem combine' {u0 u1 v0 v1 p q a b : Int} (hD : 0 < crs u0 u1 v0 v1) (h1 : 0 ≤ crs u0 u1 p q) (h2 : 0 ≤ crs p q v0 v1) (k1 : 0 ≤ crs u0 u1 a b) (k2 : 0 ≤ crs v0 v1 a b) : 0 ≤ crs p q a b := by
  have e : crs u0 u1 v0 v1 * crs p q a b = crs p q v0 v1 * crs u0 u1 a b + crs u0 u1 p q * crs v0 v1 a b := by unfold crs; grind
  have a1 := Int.mul_nonneg h2 k1
  have a2 := Int.mul_nonneg h1 k2
  rcases Int.lt_or_le (crs p q a b) 0 with h | h
  · have := Int.mul_neg_of_pos_of_neg hD h
    omega
  · exact h

end Go.Proofs.Ytdkkjgbgodnopaa
