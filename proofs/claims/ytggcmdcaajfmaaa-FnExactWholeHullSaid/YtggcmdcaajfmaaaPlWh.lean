/-
  Hulls of the whole points of regions. Plain, no condition.
-/
import Derived.Test.YtggcmdcaajfmaaaPlSm
import Derived.Test.YtggcmdcaajfmaaaPlRg
namespace Go.Proofs.Ytggcmdcaajfmaaa
open Go Go.Proofs.Ytggcmdcaajfmaaa.Eng Hull
set_option linter.unusedVariables false
set_option linter.unusedSimpArgs false

def wholeS (r : Rg) : List (List Int) × Bool := if regB r && decide (r.1 = 2) then hullS ((ptsL 2).filter (hasR r)) else ([], false)

theorem whole_eq {r : Rg} (hl : r.2.length ≤ lim) (hh : ∀ h ∈ r.2, h.1.length ≤ lim) : s_WholeHull r = some (wholeS r) ∧ i_WholeHull r = some (wholeS r) := by
  unfold s_WholeHull i_WholeHull wholeS
  rw [s_IsRegion_eq (r := (r.1, r.2)) hl hh, i_IsRegion_eq (r := (r.1, r.2)) hl hh]
  simp only [Option.bind_some]
  cases hb : regB r with
  | false => exact ⟨rfl, rfl⟩
  | true =>
    rw [Bool.not_true, cond_false, cond_false]
    by_cases h2 : r.1 = 2
    · obtain ⟨n, hn⟩ := regOk hb
      have hn2 : n = 2 := by
        have := hn.dim
        omega
      subst hn2
      obtain ⟨p1, p2⟩ := pointsIn_eq hn hb
      obtain ⟨q1, q2⟩ := pts_facts (n := 2) (by omega)
      have hlen : ((ptsL 2).filter (hasR r)).length ≤ lim := by
        have := List.length_filter_le (hasR r) (ptsL 2)
        rw [lim_eq]; omega
      have heach : ∀ v ∈ (ptsL 2).filter (hasR r), v.length ≤ lim := fun v hv => by
        have := (q1 v (List.mem_filter.1 hv).1).1
        rw [lim_eq]; omega
      rw [show (r.1 != (2 : Int)) = false from by simp [h2], cond_false, cond_false, decide_eq_true h2]
      have p1' : i_PointsIn (r.1, r.2) = _ := p1
      have p2' : s_PointsIn (r.1, r.2) = _ := p2
      rw [p1', p2']
      simp only [Option.bind_some, s_HullOf_eq hlen heach, i_HullOf_eq hlen heach]
      exact ⟨hullS_cond _, rfl⟩
    · rw [show (r.1 != (2 : Int)) = true from by simp [h2], decide_eq_false h2]
      exact ⟨rfl, rfl⟩

theorem whole_fit {r : Rg} : (wholeS r).1.length ≤ 12 ∧ ∀ v ∈ (wholeS r).1, v.length = 2 := by
  unfold wholeS
  split
  · exact hullS_fit
  · simp

theorem law_WholeHull (x : Rg) (hx : TyOk RegTy x) : w_FnExactWholeHull x = some true := by
  obtain ⟨a1, a2⟩ := reg_lens hx
  unfold w_FnExactWholeHull
  rw [w_szRegion_eq (r := (x.1, x.2)) a1 a2 (by omega) (by omega)]
  simp only [Option.bind_some]
  by_cases h : (1048576 : Int) < totH x.2
  · rw [if_pos h]; rfl
  · rw [if_neg h]
    have f1 := fitH_of h (Int.le_refl _)
    have hd : decide ((1048576 : Int) - (totH x.2 : Int) < 0) = false := by simp; omega
    obtain ⟨h1, h2⟩ := whole_eq (r := (x.1, x.2)) a1 a2
    obtain ⟨ft1, ft2⟩ := whole_fit (r := (x.1, x.2))
    have tx := totC_H x.2
    have m1 := markRegion_ms (xs := x.2) (by have := f1.len; omega) (by omega) (n := 1) (by omega) (by omega)
    generalize wholeS (x.1, x.2) = r at *
    have tr := sum_two ft1 ft2
    have m3 := d_markIntSS_ms (xs := r.1) (by omega) (by omega) (n := 1) (by omega) (by omega)
    have m4 := w_heldIntSS_ms (xs := r.1) (by omega) (by omega) (n := 1) (by omega) (by omega)
    have hk : decide (1 + (totC cH x.2 : Int) < 0) = false := by simp; omega
    have hk2 : decide (1 + (((r.1.map List.length).sum : Nat) : Int) < 0) = false := by simp; omega
    have e1 : w_eqIntSS r.1 r.1 = some true := by rw [eqIntSS_eq (by rw [lim_eq]; omega) (fun v hv => by rw [ft2 v hv, lim_eq]; omega)]; simp
    simp only [hd, cond_false, w_toRegion_eq (r := (x.1, x.2)) f1, Option.bind_some, h1, h2, e1, w_eqRegion_eq (a := (x.1, x.2)) (b := (x.1, x.2)) f1, beq_self_eq_true, Bool.not_true, m1, hk, m3, m4, hk2, bne_self_eq_false]

end Go.Proofs.Ytggcmdcaajfmaaa
