/-
  Plain: dual turns. No condition.
-/
import Derived.Test.YtidgakjdlamegaaPlE
namespace Go.Proofs.Ytidgakjdlamegaa
open Go Go.Proofs.Ytidgakjdlamegaa.Eng
set_option linter.unusedVariables false
set_option linter.unusedSimpArgs false

theorem res_uniq {d q q' m : Int} (h0 : 0 ≤ q) (h1 : q < d) (k0 : 0 ≤ q') (k1 : q' < d) (h : q - q' = d * m) : q = q' := by
  rcases Int.lt_trichotomy m 0 with hm | hm | hm
  · have : d * m ≤ d * (-1) := Int.mul_le_mul_of_nonneg_left (by omega) (by omega)
    omega
  · subst hm; omega
  · have : d * 1 ≤ d * m := Int.mul_le_mul_of_nonneg_left (by omega) (by omega)
    omega

/-- Two vectors behind the same one differ by a multiple of it. -/
theorem bez_diff {a b c d x y x' y' : Int} (h : a * y - b * x = 1) (h' : a * y' - b * x' = 1) : ∃ t, crs c d x y - crs c d x' y' = crs a b c d * t := by
  refine ⟨-((x - x') * y - (y - y') * x), ?_⟩
  have e1 : x - x' = ((x - x') * y - (y - y') * x) * a := by grind
  have e2 : y - y' = ((x - x') * y - (y - y') * x) * b := by grind
  generalize (x - x') * y - (y - y') * x = t at e1 e2
  unfold crs
  have : c * y - d * x - (c * y' - d * x') = c * (y - y') - d * (x - x') := by grind
  rw [this, e1, e2]
  grind

theorem mod_two {a d : Int} (hd : 0 < d) : ∃ m, 0 ≤ (a.tmod d + d).tmod d ∧ (a.tmod d + d).tmod d < d ∧ (a.tmod d + d).tmod d - a = d * m := by
  have h1 := Int.mul_tdiv_add_tmod a d
  have h2 := tmod_lt (a := a) (b := d) (by omega)
  have h3 := Int.mul_tdiv_add_tmod (a.tmod d + d) d
  have h4 := tmod_lt (a := a.tmod d + d) (b := d) (by omega)
  have h5 : 0 ≤ (a.tmod d + d).tmod d := Int.tmod_nonneg _ (by omega)
  refine ⟨1 - a.tdiv d - (a.tmod d + d).tdiv d, h5, by omega, ?_⟩
  have : d * (1 - a.tdiv d - (a.tmod d + d).tdiv d) = d - d * a.tdiv d - d * (a.tmod d + d).tdiv d := by grind
  rw [this]; omega

theorem small30 {x y c d : Int} (hx : -30 ≤ x ∧ x ≤ 30) (hy : -30 ≤ y ∧ y ≤ 30) (h : Pv c d) : -1800 ≤ crs c d x y ∧ crs c d x y ≤ 1800 := by
  have m : ∀ {x y : Int}, -30 ≤ x → x ≤ 30 → -30 ≤ y → y ≤ 30 → -900 ≤ x * y ∧ x * y ≤ 900 := fun {x y} h1 h2 h3 h4 => by
    have := Int.natAbs_mul x y
    have h5 : x.natAbs * y.natAbs ≤ 30 * 30 := Nat.mul_le_mul (by omega) (by omega)
    omega
  have h1 := m h.a1 h.a2 hy.1 hy.2
  have h2 := m h.b1 h.b2 hx.1 hx.2
  unfold crs; omega

/-- One cone in, a list out. -/
theorem law_CL (x : Cn) (hx : TyOk ConeTy x) (s i : Cn → Option (List Int)) (w : Option Bool)
    (hw : w = (w_szCone (x.1, x.2) 1048576).bind fun v1 => cond (decide (v1 < 0)) (some true)
 ((w_toCone (x.1, x.2)).bind fun v2 => (s (v2.1, v2.2)).bind fun v3 => (w_toCone (x.1, x.2)).bind fun v4 => (i (v4.1, v4.2)).bind fun v5 => (w_eqIntS v5 v3).bind fun v6 => cond (!v6)
 (some false)
 ((w_toCone (x.1, x.2)).bind fun v7 => (w_eqCone (v4.1, v4.2) (v7.1, v7.2)).bind fun v8 => cond (!v8)
 (some false)
 ((w_markIntS v4.1 (1 : Int)).bind fun v9 => (w_markIntS v4.2 v9.1).bind fun v10 => cond (decide (v10.1 < (0 : Int)))
 (some false)
 ((w_eqIntS v5 v3).bind fun v11 => cond (!v11)
 (some false)
 ((w_markIntS v5 (1 : Int)).bind fun v12 => (w_heldIntS v12.2.1 (1 : Int)).bind fun v13 => cond (decide (v13 < (0 : Int)))
 (some false)
 (cond (v13 != v12.1)
 (some false)
 ((w_toCone (x.1, x.2)).bind fun v14 => (i (v14.1, v14.2)).bind fun v15 => (w_eqIntS v15 v3).bind fun v16 => cond (!v16)
 (some false)
 ((w_heldIntS v12.2.1 (1 : Int)).bind fun v17 => cond (decide (v17 < (0 : Int)))
 (some false)
 (cond (v17 != v12.1)
 (some false)
 (some true)))))))))))
    (hs : x.1.length ≤ 1048576 → x.2.length ≤ 1048576 → ∃ r : List Int, s x = some r ∧ i x = some r ∧ r.length ≤ 1048576) : w = some true := by
  have a1 : x.1.length ≤ lim := hx.1.1
  have a2 : x.2.length ≤ lim := hx.2.1
  rw [hw, szCone_eq a1 a2 (by omega) (by omega)]
  simp only [Option.bind_some]
  by_cases h : (1048576 : Int) < (x.1.length + x.2.length : Nat)
  · rw [if_pos h]; rfl
  · rw [if_neg h]
    have f1 : x.1.length ≤ 1048576 := by omega
    have f2 : x.2.length ≤ 1048576 := by omega
    have hd : decide ((1048576 : Int) - (x.1.length + x.2.length : Nat) < 0) = false := by simp; omega
    obtain ⟨o, h1, h2, h3⟩ := hs f1 f2
    have e1 : decide ((1 : Int) + x.1.length + x.2.length < 0) = false := by simp; omega
    have e2 : decide ((1 : Int) + o.length < 0) = false := by simp; omega
    simp only [hd, cond_false, toCone_eq (c := (x.1, x.2)) f1 f2, Option.bind_some, h1, h2, eqCone_eq (c := (x.1, x.2)) (lim_of f1) (lim_of f2), eqIntS_eq (xs := o) (lim_of h3), beq_self_eq_true, Bool.not_true, cond_false,
      markIntS_eq (xs := x.1) (by omega) (k := 1) (by omega) (by omega), markIntS_eq (xs := x.2) (by omega) (k := 1 + x.1.length) (by omega) (by omega), e1,
      markIntS_eq (xs := o) (by omega) (k := 1) (by omega) (by omega), heldIntS_eq (n := o.length) (by omega) (k := 1) (by omega) (by omega), e2, bne_self_eq_false]

end Go.Proofs.Ytidgakjdlamegaa
