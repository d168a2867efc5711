/-
  Plain: dual turns. No condition.
-/
import Derived.Test.YtdkkjgbgodnopaaPlE
namespace Go.Proofs.Ytdkkjgbgodnopaa
open Go Go.Proofs.Ytdkkjgbgodnopaa.Eng
set_option linter.unusedVariables false
set_option linter.unusedSimpArgs false

theorem res_uniq {d q q' m : Int} (h0 : 0 ≤ q) (h1 : q < d) (k0 : 0 ≤ q') (k1 : q' < d) (h : q - q' = d * m) : q = q' := by
  rcases Int.lt_trichotomy m 0 with hm | hm | hm
  · have : d * m ≤ d * (-1) := Int.mul_le_mul_of_nonneg_left (by omega) (by omega)
    omega
  · subst hm; omega
  · have : d * 1 ≤ d * m := Int.mul_le_mul_of_nonneg_left (by omega) (by omega)
    omega

/-- Two vectors behind the same one differ by a multiple of it. -/
theorem bez_diff {a b c d x y x' y' : Int} (h : a * y - b * x = 1) (h' : a * y' - b * x' = 1) : ∃ t, crs c d x y - crs c d x' y' = crs a b c d * t := by
  refine ⟨-((x - x') * y - (y - y') * x), ?_⟩
  have e1 : x - x' = ((x - x') * y - (y - y') * x) * a := by grind
  have e2 : y - y' = ((x - x') * y - (y - y') * x) * b := by grind
  generalize (x - x') * y - (y - y') * x = t at e1 e2
  unfold crs
  have : c * y - d * x - (c * y' - d * x') = c * (y - y') - d * (x - x') := by grind
  rw [this, e1, e2]
  grind

theorem mod_two {a d : Int} (hd : 0 < d) : ∃ m, 0 ≤ (a.tmod d + d).tmod d ∧ (a.tmod d + d).tmod d < d ∧ (a.tmod d + d).tmod d - a = d * m := by
  have h1 := Int.mul_tdiv_add_tmod a d
  have h2 := tmod_lt (a := a) (b := d) (by omega)
  have h3 := Int.mul_tdiv_add_tmod (a.tmod d + d) d
  have h4 := tmod_lt (a := a.tmod d + d) (b := d) (by omega)
  have h5 : 0 ≤ (a.tmod d + d).tmod d := Int.tmod_nonneg _ (by omega)
  refine ⟨1 - a.tdiv d - (a.tmod d + d).tdiv d, h5, by omega, ?_⟩
  have : d * (1 - a.tdiv d - (a.tmod d + d).tdiv d) = d - d * a.tdiv d - d * (a.tmod d + d).tdiv d := by grind
  rw [this]; omega

theorem small30 {x y c d : Int} (hx : -30 ≤ x ∧ x ≤ 30) (hy : -30 ≤ y ∧ y ≤ 30) (h : Pv c d) : -1800 ≤ crs c d x y ∧ crs c d x y ≤ 1800 := by
  have m : ∀ {x y : Int}, -30 ≤ x → x ≤ 30 → -30 ≤ y → y ≤ 30 → -900 ≤ x * y ∧ x * y ≤ 900 := fun {x y} h1 h2 h3 h4 => by
    have := Int.natAbs_mul x y
    have h5 : x.natAbs * y.natAbs ≤ 30 * 30 := Nat.mul_le_mul (by omega) (by omega)
    omega
  have h1 := m h.a1 h.a2 hy.1 hy.2
  have h2 := m h.b1 h.b2 hx.1 hx.2
  unfold crs; omega

theorem i_ConeIndex_eq {c : Cn} (h1 : c.1.length ≤ lim) (h2 : c.2.length ≤ lim) : i_ConeIndex c = some (if isCn c then crsL c.1 c.2 else 0) := by
  simp only [i_ConeIndex, i_IsCone_eq (c := (c.1, c.2)) h1 h2, Option.bind_some]
  cases hc : isCn c
  · have : isCn (c.1, c.2) = false := hc
    simp [this]
  · have hc' : isCn (c.1, c.2) = true := hc
    obtain ⟨a, b, x, y, rfl, hu, hv, hD⟩ := isCn_pv hc
    simp only [hc', Bool.not_true, cond_false, (crs_pv hu hv).1, Option.bind_some, if_true]
    rfl

theorem dual_eq {c : Cn} (h1 : c.1.length ≤ lim) (h2 : c.2.length ≤ lim) : ∃ T : List Int, s_DualTurns c = some T ∧ i_DualTurns c = some T ∧ T.length ≤ 1801 := by
  simp only [s_DualTurns, i_DualTurns, s_IsCone_eq (c := (c.1, c.2)) h1 h2, i_ConeIndex_eq (c := (c.1, c.2)) h1 h2, Option.bind_some]
  cases hc : isCn c
  · have : isCn (c.1, c.2) = false := hc
    exact ⟨[], by simp [this], by simp [this], by simp⟩
  · have hc' : isCn (c.1, c.2) = true := hc
    obtain ⟨a, b, p, q, rfl, hu, hv, hD⟩ := isCn_pv hc
    have hle := cross_le hu hv
    obtain ⟨w, hw, ⟨x, y, rfl, hb, hx, hy⟩⟩ := bezout_eq hu
    obtain ⟨x', y', hw', hb', hx', hy'⟩ := partner_eq ⟨hu.a1, hu.a2⟩ ⟨hu.b1, hu.b2⟩ hu.g
    have t30 : ∀ {z : Int}, -30 ≤ z ∧ z ≤ 30 → Tn z := fun h => by unfold Tn; omega
    have s1 := small30 hx hy hv
    have s2 := small30 hx' hy' hv
    have g1 : s_l7Cross [p, q] [x, y] = some (crs p q x y) := l7Cross_eq hv.ta hv.tb (t30 hx) (t30 hy)
    have g2 : i_cross [p, q] [x', y'] = some (crs p q x' y') := cross_eq hv.ta hv.tb (t30 hx') (t30 hy')
    have hDL : crsL [a, b] [p, q] = crs a b p q := rfl
    have fs := flr_spec (e := -crs p q x y) hD
    obtain ⟨m1, n1, n2, n3⟩ := mod_two (a := -crs p q x' y') hD
    obtain ⟨t, ht⟩ := bez_diff (c := p) (d := q) hb hb'
    have w1 : IntKind.i64.wrap (0 - crs p q x y) = -crs p q x y := by rw [wrap_id (by omega) (by omega)]; omega
    have w2 : IntKind.i64.wrap (0 - crs p q x' y') = -crs p q x' y' := by rw [wrap_id (by omega) (by omega)]; omega
    have hfl : s_l3Floor (-crs p q x y) (crs a b p q) = some (flr (-crs p q x y) (crs a b p q)) := l3Floor_eq hD (by unfold Sm; omega)
    have hr1 : remI .i64 (-crs p q x' y') (crs a b p q) = some ((-crs p q x' y').tmod (crs a b p q)) := remI_some (by omega)
    have tb := tmod_lt (a := -crs p q x' y') (b := crs a b p q) (by omega)
    have w3 : IntKind.i64.wrap ((-crs p q x' y').tmod (crs a b p q) + crs a b p q) = (-crs p q x' y').tmod (crs a b p q) + crs a b p q := wrap_id (by omega) (by omega)
    have hr2 : remI .i64 ((-crs p q x' y').tmod (crs a b p q) + crs a b p q) (crs a b p q) = some (((-crs p q x' y').tmod (crs a b p q) + crs a b p q).tmod (crs a b p q)) := remI_some (by omega)
    have w4 : IntKind.i64.wrap (flr (-crs p q x y) (crs a b p q) * crs a b p q) = flr (-crs p q x y) (crs a b p q) * crs a b p q := wrap_id (by omega) (by omega)
    have w5 : IntKind.i64.wrap (flr (-crs p q x y) (crs a b p q) * crs a b p q + crs p q x y) = flr (-crs p q x y) (crs a b p q) * crs a b p q + crs p q x y := wrap_id (by omega) (by omega)
    have w6 : IntKind.i64.wrap (0 - (flr (-crs p q x y) (crs a b p q) * crs a b p q + crs p q x y)) = -crs p q x y - flr (-crs p q x y) (crs a b p q) * crs a b p q := by rw [wrap_id (by omega) (by omega)]; omega
    have heq : -crs p q x y - flr (-crs p q x y) (crs a b p q) * crs a b p q = ((-crs p q x' y').tmod (crs a b p q) + crs a b p q).tmod (crs a b p q) := by
      refine res_uniq (d := crs a b p q) (m := -flr (-crs p q x y) (crs a b p q) - t - m1) fs.1 fs.2 n1 n2 ?_
      have : crs a b p q * (-flr (-crs p q x y) (crs a b p q) - t - m1) = -(flr (-crs p q x y) (crs a b p q) * crs a b p q) - crs a b p q * t - crs a b p q * m1 := by grind
      rw [this, ← ht, ← n3]; omega
    obtain ⟨T, q1, q2, q3, _⟩ := turnsOf_eq (c := ([1, 0], [((-crs p q x' y').tmod (crs a b p q) + crs a b p q).tmod (crs a b p q), crs a b p q])) (show 2 ≤ lim by decide) (show 2 ≤ lim by decide)
    have hz : (crs a b p q == 0) = false := by simp; omega
    refine ⟨T, ?_, ?_, q3⟩
    · simp only [hc', Bool.not_true, cond_false, (crs_pv hu hv).2, hw, g1, w1, hfl, w4, w5, w6, heq, Option.bind_some, q1]
    · simp only [hc', if_true, hDL, hz, cond_false, hw', g2, w2, hr1, w3, hr2, Option.bind_some, q2]

end Go.Proofs.Ytdkkjgbgodnopaa
