/-
  Plain: dual turns and turns. No condition.
-/
import Derived.Test.YtdkkjgbgodnopaaPlHj
import Derived.Test.YtdkkjgbgodnopaaPlD
namespace Go.Proofs.Ytdkkjgbgodnopaa
open Go Go.Proofs.Ytdkkjgbgodnopaa.Eng
set_option linter.unusedVariables false
set_option linter.unusedSimpArgs false

theorem chain_of {c : Cn} (h1 : c.1.length ≤ lim) (h2 : c.2.length ≤ lim) (hc : isCn c = true) : ∃ (a b p q x y : Int) (r : List (List Int)), c = ([a, b], [p, q]) ∧ Pv a b ∧ Pv p q ∧ 0 < crs a b p q ∧
    s_SplitCone c = some ([a, b] :: [x, y] :: r) ∧ i_SplitCone c = some ([a, b] :: [x, y] :: r) ∧ Chn ([a, b] :: [x, y] :: r) ∧ Nx a b p q x y ∧ turns ([a, b] :: [x, y] :: r) = hj 2000 (crs a b p q) (crs x y p q) := by
  obtain ⟨L, q1, q2, q3, q4, q5⟩ := split_eq h1 h2
  obtain ⟨L', r1, r2, h⟩ := split_chn h1 h2
  rw [q1] at r1
  obtain rfl := Option.some.inj r1
  obtain ⟨p, q, hpq, hv, hch, hhd⟩ := q5 hc
  obtain ⟨a, b, p', q', rfl, hu, hv', hD⟩ := isCn_pv hc
  simp only [List.cons.injEq, and_true] at hpq
  obtain ⟨rfl, rfl⟩ := hpq
  match L, hch, hhd, q1, q2, q3, h with
  | [u], hch, hhd, q1, q2, q3, h =>
    exfalso
    obtain ⟨a', b', rfl, _, h0⟩ := hch
    have e : [a', b'] = [a, b] := by simpa using hhd
    simp only [List.cons.injEq, and_true] at e
    obtain ⟨rfl, rfl⟩ := e
    omega
  | u :: u' :: r, hch, hhd, q1, q2, q3, h =>
    have e : u = [a, b] := by simpa using hhd
    subst e
    have hch' := hch
    obtain ⟨⟨a1, b1, x, y, e1, rfl, _, n1⟩, _⟩ := hch
    simp only [List.cons.injEq, and_true] at e1
    obtain ⟨rfl, rfl⟩ := e1
    exact ⟨a, b, p', q', x, y, r, rfl, hu, hv', hD, q1, q2, h, n1, turns_hj r a b x y 2000 hch' (by simp at q3; omega)⟩

theorem turnsOf_none {c : Cn} (h1 : c.1.length ≤ lim) (h2 : c.2.length ≤ lim) (hc : isCn c = false) : i_TurnsOf c = some [] ∧ s_TurnsOf c = some [] := by
  obtain ⟨L, q1, q2, _, q4, _⟩ := split_eq h1 h2
  obtain ⟨L', r1, _, h⟩ := split_chn h1 h2
  rw [q1] at r1
  obtain rfl := Option.some.inj r1
  have hL := q4 hc
  subst hL
  have q1 : s_SplitCone (c.1, c.2) = some [] := q1
  have q2 : i_SplitCone (c.1, c.2) = some [] := q2
  exact ⟨by simp only [i_TurnsOf, q2, Option.bind_some, i_TurnsOf_eq h]; rfl, by simp only [s_TurnsOf, q1, Option.bind_some, s_TurnsOf_eq h]; rfl⟩

theorem dual_hj {a b p q x y : Int} (hu : Pv a b) (hv : Pv p q) (hD : 0 < crs a b p q) (hc : isCn ([a, b], [p, q]) = true) (hn : Nx a b p q x y) : ∃ D : List Int, i_DualTurns ([a, b], [p, q]) = some D ∧
    (D = [] ∨ (0 < crs x y p q ∧ crs a b p q ≤ 30 ∧ Int.gcd (crs x y p q) (crs a b p q) = 1 ∧ D = hj 2000 (crs a b p q) (crs a b p q - crs x y p q))) ∧ (crs a b p q = 1 → D = []) ∧ (∀ t ∈ D, -1800 ≤ t ∧ t ≤ 1800) ∧ D.length ≤ 2000 := by
  have hl : ([a, b] : List Int).length ≤ lim := show 2 ≤ lim by decide
  have hl2 : ([p, q] : List Int).length ≤ lim := show 2 ≤ lim by decide
  have hle := cross_le hu hv
  obtain ⟨x', y', hw', hb', hx', hy'⟩ := partner_eq ⟨hu.a1, hu.a2⟩ ⟨hu.b1, hu.b2⟩ hu.g
  have t30 : ∀ {z : Int}, -30 ≤ z ∧ z ≤ 30 → Tn z := fun h => by unfold Tn; omega
  have s2 := small30 hx' hy' hv
  have g2 : i_cross [p, q] [x', y'] = some (crs p q x' y') := cross_eq hv.ta hv.tb (t30 hx') (t30 hy')
  have hDL : crsL [a, b] [p, q] = crs a b p q := rfl
  obtain ⟨m1, n1, n2, n3⟩ := mod_two (a := -crs p q x' y') hD
  have hb : a * y - b * x = 1 := hn.one
  obtain ⟨t, ht⟩ := bez_diff (c := p) (d := q) hb hb'
  have w2 : IntKind.i64.wrap (0 - crs p q x' y') = -crs p q x' y' := by rw [wrap_id (by omega) (by omega)]; omega
  have hr1 : remI .i64 (-crs p q x' y') (crs a b p q) = some ((-crs p q x' y').tmod (crs a b p q)) := remI_some (by omega)
  have tb := tmod_lt (a := -crs p q x' y') (b := crs a b p q) (by omega)
  have w3 : IntKind.i64.wrap ((-crs p q x' y').tmod (crs a b p q) + crs a b p q) = (-crs p q x' y').tmod (crs a b p q) + crs a b p q := wrap_id (by omega) (by omega)
  have hr2 : remI .i64 ((-crs p q x' y').tmod (crs a b p q) + crs a b p q) (crs a b p q) = some (((-crs p q x' y').tmod (crs a b p q) + crs a b p q).tmod (crs a b p q)) := remI_some (by omega)
  have hz : (crs a b p q == 0) = false := by simp; omega
  have hq : ((-crs p q x' y').tmod (crs a b p q) + crs a b p q).tmod (crs a b p q) = crs x y p q := by
    have e : crs x y p q = - crs p q x y := by unfold crs; grind
    refine (res_uniq (d := crs a b p q) (m := -t - m1) hn.lo hn.hi n1 n2 ?_).symm
    have : crs a b p q * (-t - m1) = -(crs a b p q * t) - crs a b p q * m1 := by grind
    rw [this, ← ht, ← n3]
    omega
  have hi : i_DualTurns ([a, b], [p, q]) = i_TurnsOf ([1, 0], [crs x y p q, crs a b p q]) := by
    simp only [i_DualTurns, i_ConeIndex_eq (c := ([a, b], [p, q])) hl hl2, Option.bind_some, hc, if_true, hDL, hz, cond_false, hw', g2, w2, hr1, w3, hr2, hq]
    cases i_TurnsOf ([1, 0], [crs x y p q, crs a b p q]) <;> rfl
  rw [hi]
  have hn0 := hn.lo
  have hn1 := hn.hi
  cases hc2 : isCn ([1, 0], [crs x y p q, crs a b p q]) with
  | false => exact ⟨[], (turnsOf_none (c := ([1, 0], [crs x y p q, crs a b p q])) (show 2 ≤ lim by decide) (show 2 ≤ lim by decide) hc2).1, .inl rfl, fun _ => rfl, by simp, by simp⟩
  | true =>
    obtain ⟨a1, b1, p1, q1, x1, y1, r, e, hu1, hv1, hD1, k1, k2, k3, k4, k5⟩ := chain_of (c := ([1, 0], [crs x y p q, crs a b p q])) (show 2 ≤ lim by decide) (show 2 ≤ lim by decide) hc2
    simp only [Prod.mk.injEq, List.cons.injEq, and_true] at e
    obtain ⟨⟨rfl, rfl⟩, rfl, rfl⟩ := e
    have k2' : i_SplitCone (([1, 0], [crs x y p q, crs a b p q]) : Cn) = _ := k2
    have e0 : crs 1 0 (crs x y p q) (crs a b p q) = crs a b p q := by unfold crs; grind
    have o1 : y1 = 1 := by have := k4.one; unfold crs at this; omega
    have o2 := k4.lo
    have o3 := k4.hi
    rw [e0] at o3 k5
    have e1 : crs x1 y1 (crs x y p q) (crs a b p q) = x1 * crs a b p q - crs x y p q := by rw [o1]; unfold crs; grind
    rw [e1] at o2 o3 k5
    generalize hN : crs a b p q = N at *
    generalize hR : crs x y p q = R at *
    have hT : i_TurnsOf ([1, 0], [R, N]) = some (hj 2000 N (x1 * N - R)) := by
      simp only [i_TurnsOf, k2', Option.bind_some, i_TurnsOf_eq k3, k5]
    have g1 := hv1.g
    have hx1 : R = 0 → N = 1 := fun h => by rw [h] at g1; simp at g1; omega
    have hz1 : N = 1 → hj 2000 N (x1 * N - R) = [] := fun h => by
      have e : x1 * N - R = 0 := by rw [h] at o3; rw [h]; rw [h] at o2; omega
      rw [e]; rfl
    refine ⟨_, hT, ?_, hz1, by rw [← k5]; exact turns_le k3, hj_len _ _ _⟩
    by_cases h0 : R = 0
    · exact .inl (hz1 (hx1 h0))
    · right
      have hx : x1 = 1 := by
        rcases Int.lt_trichotomy x1 1 with h | h | h
        · have : x1 * N ≤ 0 * N := Int.mul_le_mul_of_nonneg_right (by omega) (by omega)
          omega
        · exact h
        · have : 2 * N ≤ x1 * N := Int.mul_le_mul_of_nonneg_right (by omega) (by omega)
          omega
      have := hv1.b2
      refine ⟨by omega, by omega, g1, ?_⟩
      rw [hx, Int.one_mul]

/-- How turns and dual turns balance. -/
theorem balance {n q : Int} (h0 : 0 < q) (h1 : q < n) (h2 : n ≤ 30) (hg : Int.gcd q n = 1) :
    (hj 2000 n (n - q)).sum - (hj 2000 n (n - q)).length = (hj 2000 n q).sum - (hj 2000 n q).length ∧ ((hj 2000 n (n - q)).length : Int) + (hj 2000 n q).length = (hj 2000 n q).sum - (hj 2000 n q).length + 1 := by
  rw [hj_more 2000 40 n q h1 (by omega) (by omega), hj_more 2000 40 n (n - q) (by omega) (by omega) (by omega)]
  obtain ⟨N, rfl⟩ := Int.eq_ofNat_of_zero_le (show 0 ≤ n by omega)
  obtain ⟨Q, rfl⟩ := Int.eq_ofNat_of_zero_le (show 0 ≤ q by omega)
  have h := dual_all
  rw [List.all_eq_true] at h
  have hN := h N (List.mem_range.2 (by omega))
  rw [List.all_eq_true] at hN
  have hQ := hN Q (List.mem_range.2 (by omega))
  unfold dualOk at hQ
  have hq0 : (Q == 0) = false := by simp; omega
  have hg1 : (Nat.gcd Q N != 1) = false := by
    have : Nat.gcd Q N = 1 := hg
    simp [this]
  rw [hq0, hg1, Bool.false_or, Bool.false_or, Bool.and_eq_true, beq_iff_eq, beq_iff_eq] at hQ
  exact hQ

end Go.Proofs.Ytdkkjgbgodnopaa
