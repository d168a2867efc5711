/-
  Whole points of polygons in the program; layers. Plain, no condition.
-/
import Derived.Test.YtilggmmanhinbaaPlO
import Derived.Test.YtilggmmanhinbaaPlG
namespace Go.Proofs.Ytilggmmanhinbaa
open Go Go.Proofs.Ytilggmmanhinbaa.Eng
open Hull (Pt tn lx at_ at_some at_mem)
set_option linter.unusedVariables false
set_option linter.unusedSimpArgs false
theorem area_same (x : List (List Int)) : i_areaTwice x = s_l7Area x := rfl
theorem crs_bd {a b : Pt} (ha : Bd 50 a) (hb : Bd 50 b) : -5000 ≤ a.1 * b.2 - a.2 * b.1 ∧ a.1 * b.2 - a.2 * b.1 ≤ 5000 := by
  have h1 := abs_mul_le ha.1 ha.2.1 hb.2.2.1 hb.2.2.2
  have h2 := abs_mul_le ha.2.2.1 ha.2.2.2 hb.1 hb.2.1
  omega
theorem l7Cross_em {a b : Pt} (ha : Bd 50 a) (hb : Bd 50 b) : s_l7Cross (em a) (em b) = some (a.1 * b.2 - a.2 * b.1) := by
  have h1 := abs_mul_le ha.1 ha.2.1 hb.2.2.1 hb.2.2.2
  have h2 := abs_mul_le ha.2.2.1 ha.2.2.2 hb.1 hb.2.1
  unfold s_l7Cross
  simp only [(idx_em a).1, (idx_em a).2, (idx_em b).1, (idx_em b).2, Option.bind_some]
  rw [wrap_small (x := a.1 * b.2) (by omega) (by omega), wrap_small (x := a.2 * b.1) (by omega) (by omega), wrap_small (by omega) (by omega)]
theorem area_some {P : List Pt} (hB : ∀ q ∈ P, Bd 50 q) (hl : P.length ≤ 12) : ∃ A, s_l7Area (P.map em) = some A := by
  obtain ⟨y, e, _⟩ := iter_run (step := s_l7Area_s3 (P.map em)) (fun s => ∃ k : Nat, s.2 = (k : Int) ∧ k ≤ P.length ∧ -5000 * (k : Int) ≤ s.1 ∧ s.1 ≤ 5000 * (k : Int)) (fun s => P.length - s.2.toNat) (fun _ _ => True) (fun s hs => by
    obtain ⟨c, i⟩ := s
    obtain ⟨k, rfl, g1, g2, g3⟩ := hs
    simp only at g1 g2 g3
    unfold s_l7Area_s3
    simp only
    by_cases h : k < P.length
    · right
      have hj : (k + 1) % P.length < P.length := Nat.mod_lt _ (by omega)
      have hr : remI .i64 (IntKind.i64.wrap ((k : Int) + 1)) ((P.map em).length : Int) = some (((k + 1) % P.length : Nat) : Int) := by
        rw [wrap_small (by omega) (by omega), List.length_map]
        exact remP (j := k + 1) (by omega)
      have hc := crs_bd (hB _ (at_mem h)) (hB _ (at_mem hj))
      rw [show decide ((k : Int) < ((P.map em).length : Int)) = true from by simp; omega, cond_true, idxP h, hr]
      simp only [Option.bind_some]
      rw [idxP hj]
      simp only [Option.bind_some]
      rw [l7Cross_em (hB _ (at_mem h)) (hB _ (at_mem hj))]
      refine ⟨_, rfl, ⟨k + 1, ?_, by omega, ?_, ?_⟩, ?_, fun _ _ => trivial⟩
      · simp only; rw [wrap_small (by omega) (by omega)]; rfl
      · simp only; rw [wrap_small (by omega) (by omega)]; omega
      · simp only; rw [wrap_small (by omega) (by omega)]; omega
      · simp only; rw [wrap_small (x := (k : Int) + 1) (by omega) (by omega)]; omega
    · left
      rw [show decide ((k : Int) < ((P.map em).length : Int)) = false from by simp; omega, cond_false]
      exact ⟨_, rfl, trivial⟩) (0, 0) ⟨0, rfl, Nat.zero_le _, by simp, by simp⟩
  exact ⟨y, by unfold s_l7Area; rw [e]; rfl⟩
/-- A point of the polygon goes no further than the corners. -/
theorem in_sup {P : List Pt} (h3 : 3 ≤ P.length) (hp : Hull.Pol P) (a : Pt) {q : Pt} (hq : inP P q) : dt a q ≤ sup P a := by
  obtain ⟨h1, V, hV, hs⟩ := hi_spec (dt a) (P := P) (by omega)
  have hs : sup P a = dt a V := hs
  have h1 : ∀ q ∈ P, dt a q ≤ sup P a := h1
  obtain ⟨k, hk, rfl⟩ := List.mem_iff_getElem.1 hV
  have hkV : at_ P k = P[k] := Hull.at_of (List.getElem?_eq_getElem hk)
  rw [← hkV] at hs
  have hj : (k + P.length - 1) % P.length < P.length := Nat.mod_lt _ (by omega)
  generalize hje : (k + P.length - 1) % P.length = j at hj
  have hj1 : (j + 1) % P.length = k := by
    rw [← hje, Nat.add_mod, Nat.mod_mod, ← Nat.add_mod, show k + P.length - 1 + 1 = k + P.length from by omega, Nat.add_mod_right, Nat.mod_eq_of_lt hk]
  have hj2 : (j + 2) % P.length = (k + 1) % P.length := by
    rw [show j + 2 = j + 1 + 1 from rfl, Nat.add_mod (j + 1), hj1, Nat.add_mod_mod]
  have hc := (Hull.pol_chk h3).1 hp j hj
  unfold Hull.chk at hc
  simp only [Bool.and_eq_true, decide_eq_true_eq] at hc
  have hc := hc.1
  rw [hj1, hj2] at hc
  have q1 := hq j hj
  have q2 := hq k hk
  unfold sd at q1 q2
  rw [hj1] at q1
  have hw : (k + 1) % P.length < P.length := Nat.mod_lt _ (by omega)
  have m1 := h1 _ (at_mem hj)
  have m2 := h1 _ (at_mem hw)
  rw [hs] at m1 m2 ⊢
  generalize at_ P j = U at hc q1 m1
  generalize at_ P ((k + 1) % P.length) = W at hc q2 m2
  generalize at_ P k = V at hc q1 q2 m1 m2
  unfold dt at m1 m2 ⊢
  unfold tn at hc q1 q2
  have e1 : ((V.1 - U.1) * (W.2 - U.2) - (V.2 - U.2) * (W.1 - U.1)) * ((a.1 * q.1 + a.2 * q.2) - (a.1 * V.1 + a.2 * V.2)) =
      ((V.1 - U.1) * (q.2 - U.2) - (V.2 - U.2) * (q.1 - U.1)) * ((a.1 * W.1 + a.2 * W.2) - (a.1 * V.1 + a.2 * V.2)) + ((W.1 - V.1) * (q.2 - V.2) - (W.2 - V.2) * (q.1 - V.1)) * ((a.1 * U.1 + a.2 * U.2) - (a.1 * V.1 + a.2 * V.2)) := by grind
  generalize (V.1 - U.1) * (W.2 - U.2) - (V.2 - U.2) * (W.1 - U.1) = X at e1 hc
  generalize (V.1 - U.1) * (q.2 - U.2) - (V.2 - U.2) * (q.1 - U.1) = Y at e1 q1
  generalize (W.1 - V.1) * (q.2 - V.2) - (W.2 - V.2) * (q.1 - V.1) = Z at e1 q2
  have n1 : Y * ((a.1 * W.1 + a.2 * W.2) - (a.1 * V.1 + a.2 * V.2)) ≤ 0 := Int.mul_nonpos_of_nonneg_of_nonpos q1 (by omega)
  have n2 : Z * ((a.1 * U.1 + a.2 * U.2) - (a.1 * V.1 + a.2 * V.2)) ≤ 0 := Int.mul_nonpos_of_nonneg_of_nonpos q2 (by omega)
  refine Int.not_lt.1 fun hlt => ?_
  have : 0 < X * ((a.1 * q.1 + a.2 * q.2) - (a.1 * V.1 + a.2 * V.2)) := Int.mul_pos hc (by omega)
  omega
end Go.Proofs.Ytilggmmanhinbaa
