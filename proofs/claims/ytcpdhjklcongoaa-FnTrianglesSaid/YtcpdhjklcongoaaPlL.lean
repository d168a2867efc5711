/-
  Whole points of polygons in the program; layers. Plain, no condition.
-/
import Derived.Test.YtcpdhjklcongoaaPlO
import Derived.Test.YtcpdhjklcongoaaPlG
namespace Go.Proofs.Ytcpdhjklcongoaa
open Go Go.Proofs.Ytcpdhjklcongoaa.Eng
open Hull (Pt tn lx at_ at_some at_mem)
set_option linter.unusedVariables false
set_option linter.unusedSimpArgs false
theorem area_same (x : List (List Int)) : i_areaTwice x = s_l7Area x := rfl
theorem crs_bd {a b : Pt} (ha : Bd 50 a) (hb : Bd 50 b) : -5000 ≤ a.1 * b.2 - a.2 * b.1 ∧ a.1 * b.2 - a.2 * b.1 ≤ 5000 := by
  have h1 := abs_mul_le ha.1 ha.2.1 hb.2.2.1 hb.2.2.2
  have h2 := abs_mul_le ha.2.2.1 ha.2.2.2 hb.1 hb.2.1
  omega
theorem l7Cross_em {a b : Pt} (ha : Bd 50 a) (hb : Bd 50 b) : s_l7Cross (em a) (em b) = some (a.1 * b.2 - a.2 * b.1) := by
  have h1 := abs_mul_le ha.1 ha.2.1 hb.2.2.1 hb.2.2.2
  have h2 := abs_mul_le ha.2.2.1 ha.2.2.2 hb.1 hb.2.1
  unfold s_l7Cross
  simp only [(idx_em a).1, (idx_em a).2, (idx_em b).1, (idx_em b).2, Option.bind_some]
  rw [wrap_small (x := a.1 * b.2) (by omega) (by omega), wrap_small (x := a.2 * b.1) (by omega) (by omega), wrap_small (by omega) (by omega)]
theorem area_some {P : List Pt} (hB : ∀ q ∈ P, Bd 50 q) (hl : P.length ≤ 12) : ∃ A, s_l7Area (P.map em) = some A := by
  obtain ⟨y, e, _⟩ := iter_run (step := s_l7Area_s3 (P.map em)) (fun s => ∃ k : Nat, s.2 = (k : Int) ∧ k ≤ P.length ∧ -5000 * (k : Int) ≤ s.1 ∧ s.1 ≤ 5000 * (k : Int)) (fun s => P.length - s.2.toNat) (fun _ _ => True) (fun s hs => by
    obtain ⟨c, i⟩ := s
    obtain ⟨k, rfl, g1, g2, g3⟩ := hs
    simp only at g1 g2 g3
    unfold s_l7Area_s3
    simp only
    by_cases h : k < P.length
    · right
      have hj : (k + 1) % P.length < P.length := Nat.mod_lt _ (by omega)
      have hr : remI .i64 (IntKind.i64.wrap ((k : Int) + 1)) ((P.map em).length : Int) = some (((k + 1) % P.length : Nat) : Int) := by
        rw [wrap_small (by omega) (by omega), List.length_map]
        exact remP (j := k + 1) (by omega)
      have hc := crs_bd (hB _ (at_mem h)) (hB _ (at_mem hj))
      rw [show decide ((k : Int) < ((P.map em).length : Int)) = true from by simp; omega, cond_true, idxP h, hr]
      simp only [Option.bind_some]
      rw [idxP hj]
      simp only [Option.bind_some]
      rw [l7Cross_em (hB _ (at_mem h)) (hB _ (at_mem hj))]
      refine ⟨_, rfl, ⟨k + 1, ?_, by omega, ?_, ?_⟩, ?_, fun _ _ => trivial⟩
      · simp only; rw [wrap_small (by omega) (by omega)]; rfl
      · simp only; rw [wrap_small (by omega) (by omega)]; omega
      · simp only; rw [wrap_small (by omega) (by omega)]; omega
      · simp only; rw [wrap_small (x := (k : Int) + 1) (by omega) (by omega)]; omega
    · left
      rw [show decide ((k : Int) < ((P.map em).length : Int)) = false from by simp; omega, cond_false]
      exact ⟨_, rfl, trivial⟩) (0, 0) ⟨0, rfl, Nat.zero_le _, by simp, by simp⟩
  exact ⟨y, by unfold s_l7Area; rw [e]; rfl⟩
end Go.Proofs.Ytcpdhjklcongoaa
