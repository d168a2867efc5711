/-
  Plain: turns of a cone as a chain of remainders, dual turns, corners of a sail. No condition.
-/
import Derived.Test.YtdkkjgbgodnopaaPlSc
namespace Go.Proofs.Ytdkkjgbgodnopaa
open Go Go.Proofs.Ytdkkjgbgodnopaa.Eng
set_option linter.unusedVariables false
set_option linter.unusedSimpArgs false

/-- Rounding up, again and again. -/
def hj : Nat → Int → Int → List Int
  | 0, _, _ => []
  | f + 1, n, q => if q ≤ 0 then [] else ((n + q - 1) / q) :: hj f q ((n + q - 1) / q * q - n)

theorem ceil_eq {n q t r : Int} (hq : 0 < q) (h : t * q = n + r) (h0 : 0 ≤ r) (h1 : r < q) : (n + q - 1) / q = t := by
  have e : n + q - 1 = (q - 1 - r) + t * q := by omega
  rw [e, Int.add_mul_ediv_right _ _ (by omega), Int.ediv_eq_zero_of_lt (by omega) (by omega)]
  omega

theorem plucker (a b c d e f g h : Int) : crs a b c d * crs e f g h - crs a b e f * crs c d g h + crs a b g h * crs c d e f = 0 := by
  unfold crs; grind

theorem turns_nil1 (u : List Int) : turns [u] = [] := rfl
theorem turns_nil2 (u v : List Int) : turns [u, v] = [] := rfl
theorem turns_cons (u v w : List Int) (r : List (List Int)) : turns (u :: v :: w :: r) = crsL u w :: turns (v :: w :: r) := by
  unfold turns
  have e : (u :: v :: w :: r).length - 2 = (v :: w :: r).length - 2 + 1 := by simp
  rw [e, List.range_succ_eq_map, List.map_cons, List.map_map]
  rfl

theorem crs_two (a b c d x y z w : Int) (h1 : crs a b x y = 1) (h2 : crs x y z w = 1) : crs z w c d = crs a b z w * crs x y c d - crs a b c d := by
  have := plucker a b x y z w c d
  rw [h1, h2] at this
  have e : crs z w c d = crs z w c d := rfl
  grind

/-- The turns of a chain. -/
theorem turns_hj {c d : Int} : ∀ (r : List (List Int)) (a b x y : Int) (f : Nat), Ch c d ([a, b] :: [x, y] :: r) → r.length < f → turns ([a, b] :: [x, y] :: r) = hj f (crs a b c d) (crs x y c d)
  | [], a, b, x, y, f, h, hf => by
    obtain ⟨f, rfl⟩ : ∃ g, f = g + 1 := ⟨f - 1, by simp at hf; omega⟩
    obtain ⟨_, a', b', e, _, h0⟩ := h
    simp only [List.cons.injEq, and_true] at e
    obtain ⟨rfl, rfl⟩ := e
    rw [turns_nil2, hj, if_pos (by omega)]
  | u :: r, a, b, x, y, f, h, hf => by
    obtain ⟨f, rfl⟩ : ∃ g, f = g + 1 := ⟨f - 1, by simp at hf; omega⟩
    obtain ⟨⟨a1, b1, x1, y1, e1, e2, _, n1⟩, h2⟩ := h
    simp only [List.cons.injEq, and_true] at e1 e2
    obtain ⟨rfl, rfl⟩ := e1
    obtain ⟨rfl, rfl⟩ := e2
    have h2' := h2
    obtain ⟨⟨a2, b2, z, w, e3, rfl, _, n2⟩, h3⟩ := h2
    simp only [List.cons.injEq, and_true] at e3
    obtain ⟨rfl, rfl⟩ := e3
    have ih := turns_hj r x y z w f h2' (by simp at hf; omega)
    rw [turns_cons, ih]
    have key := crs_two a b c d x y z w n1.one n2.one
    have hq : 0 < crs x y c d := by have := n2.lo; have := n2.hi; omega
    have hc := ceil_eq (n := crs a b c d) (q := crs x y c d) (t := crs a b z w) (r := crs z w c d) hq (by omega) n2.lo n2.hi
    rw [hj, if_neg (by omega), hc]
    have e4 : crs a b z w * crs x y c d - crs a b c d = crs z w c d := by omega
    rw [e4]
    rfl

theorem hj_two : ∀ (f : Nat) (n q : Int), q < n → ∀ t ∈ hj f n q, 2 ≤ t
  | 0, n, q, _, t, ht => by simp [hj] at ht
  | f + 1, n, q, hn, t, ht => by
    rw [hj] at ht
    split at ht
    · simp at ht
    · rename_i hq
      have hq : 0 < q := by omega
      have h1 := Int.emod_add_mul_ediv (n + q - 1) q
      have h2 := Int.emod_nonneg (n + q - 1) (show q ≠ 0 by omega)
      have h3 := Int.emod_lt_of_pos (n + q - 1) hq
      rcases List.mem_cons.1 ht with rfl | ht
      · exact Int.le_ediv_of_mul_le hq (by omega)
      · refine hj_two f q _ ?_ t ht
        have e : (n + q - 1) / q * q = q * ((n + q - 1) / q) := Int.mul_comm _ _
        omega

/-- Turns and dual turns, for small numbers. -/
def dualOk (n q : Nat) : Bool := q == 0 || Nat.gcd q n != 1 ||
  (((hj 40 n (n - q)).sum - (hj 40 n (n - q)).length == (hj 40 n q).sum - (hj 40 n q).length) && (((hj 40 n (n - q)).length : Int) + (hj 40 n q).length == (hj 40 n q).sum - (hj 40 n q).length + 1))

theorem dual_all : (List.range 31).all (fun n => (List.range n).all fun q => dualOk n q) = true := by decide +kernel

theorem hj_len : ∀ (f : Nat) (n q : Int), (hj f n q).length ≤ f
  | 0, n, q => by simp [hj]
  | f + 1, n, q => by
    rw [hj]
    split
    · simp
    · simp only [List.length_cons]; have := hj_len f q ((n + q - 1) / q * q - n); omega

theorem hj_more : ∀ (f g : Nat) (n q : Int), q < n → q.toNat < f → q.toNat < g → hj f n q = hj g n q
  | 0, g, n, q, _, h, _ => by omega
  | f + 1, 0, n, q, _, _, h => by omega
  | f + 1, g + 1, n, q, hn, h, h' => by
    rw [hj, hj]
    by_cases hq : q ≤ 0
    · rw [if_pos hq, if_pos hq]
    · rw [if_neg hq, if_neg hq]
      have hq : 0 < q := by omega
      have h1 := Int.emod_add_mul_ediv (n + q - 1) q
      have h2 := Int.emod_nonneg (n + q - 1) (show q ≠ 0 by omega)
      have h3 := Int.emod_lt_of_pos (n + q - 1) hq
      have e : (n + q - 1) / q * q = q * ((n + q - 1) / q) := Int.mul_comm _ _
      rw [hj_more f g q _ (by omega) (by omega) (by omega)]

/-! Corners. -/

/-- Neighbors of a list of indices: the determinant is the distance. -/
def Far (L : List (List Int)) : List Nat → Prop
  | p :: q :: r => p < q ∧ crsL (L.getD p []) (L.getD q []) = (q : Int) - (p : Int) ∧ Far L (q :: r)
  | _ => True

theorem crsL_self (u : List Int) : crsL u u = 0 := by unfold crsL; grind

theorem far_corners {L : List (List Int)} (h : Chn L) {T : List Int} (hT : T = turns L) (h2 : ∀ t ∈ T, 2 ≤ t) (hL : 2 ≤ L.length) : ∀ (r pre : List Int) (p : Nat), T = pre ++ r → p ≤ pre.length →
    crsL (L.getD p []) (L.getD pre.length []) = (pre.length : Int) - (p : Int) → crsL (L.getD p []) (L.getD (pre.length + 1) []) = (pre.length : Int) + 1 - (p : Int) →
    Far L (p :: (cposN pre.length r ++ [T.length + 1]))
  | [], pre, p, hp, hle, c1, c2 => by
    have : pre.length = T.length := by rw [hp]; simp
    simp only [cposN, List.nil_append, Far, and_true]
    rw [← this]
    exact ⟨by omega, by rw [c2]; omega⟩
  | t :: r, pre, p, hp, hle, c1, c2 => by
    have hTl : T.length = L.length - 2 := by rw [hT]; simp [turns]
    have hlen : T.length = pre.length + 1 + r.length := by rw [hp]; simp; omega
    have ht : T[pre.length]? = some t := by rw [hp]; simp
    have hg : (turns L)[pre.length]? = some (crsL (L.getD pre.length []) (L.getD (pre.length + 2) [])) := turns_get (by omega)
    rw [← hT, ht] at hg
    have htv : t = crsL (L.getD pre.length []) (L.getD (pre.length + 2) []) := Option.some.inj hg
    have ht2 : 2 ≤ t := h2 t (by rw [hp]; simp)
    obtain ⟨a, b, g0, e0, p0⟩ := h.at (k := pre.length) (by omega)
    obtain ⟨x, y, g1, e1, p1⟩ := h.at (k := pre.length + 1) (by omega)
    obtain ⟨z, w, g2, e2, p2⟩ := h.at (k := pre.length + 2) (by omega)
    obtain ⟨u, v, g3, e3, p3⟩ := h.at (k := p) (by omega)
    have o1 := h.one pre.length _ _ g0 g1
    have o2 := h.one (pre.length + 1) _ _ g1 g2
    have hpl : (pre ++ [t]).length = pre.length + 1 := by simp
    by_cases hb : 2 < t
    · have ih := far_corners h hT h2 hL r (pre ++ [t]) (pre.length + 1) (by rw [hp]; simp) (by rw [hpl]; omega)
        (by rw [hpl, crsL_self]; omega) (by rw [hpl, e1, e2]; rw [o2]; omega)
      rw [hpl] at ih
      simp only [cposN, if_pos hb, List.cons_append, Far]
      exact ⟨by omega, by rw [c2]; omega, ih⟩
    · have ht3 : t = 2 := by omega
      have ih := far_corners h hT h2 hL r (pre ++ [t]) p (by rw [hp]; simp) (by rw [hpl]; omega)
        (by rw [hpl, c2]; omega) (by
          rw [hpl]
          rw [e0, e3] at c1
          rw [e1, e3] at c2
          rw [e0, e2] at htv
          show crsL (L.getD p []) (L.getD (pre.length + 2) []) = _
          rw [e2, e3]
          have := plucker a b x y z w u v
          have q1 : crs a b x y = 1 := o1
          have q2 : crs x y z w = 1 := o2
          have q3 : crs a b z w = 2 := by have : t = crs a b z w := htv; omega
          have q4 : crs u v a b = (pre.length : Int) - p := c1
          have q5 : crs u v x y = (pre.length : Int) + 1 - p := c2
          have n1 : crs z w u v = - crs u v z w := by unfold crs; grind
          have n2 : crs x y u v = - crs u v x y := by unfold crs; grind
          have n3 : crs a b u v = - crs u v a b := by unfold crs; grind
          rw [q1, q2, q3, n1, n2, n3, q4, q5] at this
          show crs u v z w = _
          omega)
      rw [hpl] at ih
      simp only [cposN, if_neg hb]
      exact ih

end Go.Proofs.Ytdkkjgbgodnopaa
