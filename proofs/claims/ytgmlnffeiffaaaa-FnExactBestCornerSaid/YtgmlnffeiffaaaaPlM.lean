/-
  Plain: marks and cones. No condition.
-/
import Derived.Test.YtgmlnffeiffaaaaPl4
namespace Go.Proofs.Ytgmlnffeiffaaaa
open Go Go.Proofs.Ytgmlnffeiffaaaa.Eng
set_option linter.unusedVariables false
set_option linter.unusedSimpArgs false
/-- What a mark leaves. -/
def ms (k : Int) (n : Nat) : List Int := (List.range n).map fun (i : Nat) => k + (i : Int)
theorem ms_len (k : Int) (n : Nat) : (ms k n).length = n := by simp [ms]
theorem ms_succ (k : Int) (n : Nat) : ms k (n + 1) = ms k n ++ [k + (n : Int)] := by simp [ms, List.range_succ]
theorem ms_get {k : Int} {n i : Nat} (h : i < n) : (ms k n)[i]? = some (k + (i : Int)) := by simp [ms, h]
theorem markIntS_eq {xs : List Int} (hl : xs.length ≤ 2097152) {k : Int} (h0 : 0 ≤ k) (h1 : k ≤ 1099511627776) : w_markIntS xs k = some (k + xs.length, (ms k xs.length, ())) := by
  have := iter_fun (step := w_markIntS_s2) (fun s => ∃ i, i ≤ xs.length ∧ s = (ms k i ++ xs.drop i, k + (i : Int), (i : Int))) (fun s => xs.length - s.2.2.toNat) (fun _ => (ms k xs.length, k + xs.length)) (fun s hs => ?_) (s := (xs, k, 0)) ⟨0, by omega, by simp [ms]⟩
  · simp only [w_markIntS, this, Option.bind_some]
  · obtain ⟨i, hi, rfl⟩ := hs
    have hlen : (ms k i ++ xs.drop i).length = xs.length := by simp [ms_len]; omega
    by_cases h : i < xs.length
    · right
      have hd : decide ((i : Int) < ((ms k i ++ xs.drop i).length : Nat)) = true := by rw [hlen]; simp; omega
      have hin : inIdx (ms k i ++ xs.drop i).length (i : Int) = some () := inIdx_nat (by omega)
      refine ⟨_, ?_, ⟨i + 1, by omega, rfl⟩, ?_, rfl⟩
      · simp only [w_markIntS_s2, hd, cond_true, Int.toNat_natCast, hin, Option.bind_some]
        have hw : IntKind.i64.wrap (k + (i : Int) + 1) = k + ((i + 1 : Nat) : Int) := by rw [wrap_id (by omega) (by omega)]; omega
        have hw2 : IntKind.i64.wrap ((i : Int) + 1) = ((i + 1 : Nat) : Int) := by rw [wrap_id (by omega) (by omega)]; omega
        have hset : (ms k i ++ xs.drop i).set i (k + (i : Int)) = ms k (i + 1) ++ xs.drop (i + 1) := by
          rw [List.set_append_right _ _ (by rw [ms_len]; exact Nat.le_refl _), ms_len, Nat.sub_self, List.drop_eq_getElem_cons h, List.set_cons_zero, ms_succ, List.append_assoc]
          rfl
        rw [hw, hw2, hset]
      · simp only [Int.toNat_natCast]; omega
    · left
      have hi2 : i = xs.length := by omega
      subst hi2
      have hd : decide (((xs.length : Nat) : Int) < ((ms k xs.length).length : Nat)) = false := by rw [ms_len]; simp
      simp only [w_markIntS_s2, List.drop_length, List.append_nil, hd, cond_false]
theorem heldIntS_eq {n : Nat} (hn : n ≤ 2097152) {k : Int} (h0 : 0 ≤ k) (h1 : k ≤ 1099511627776) : w_heldIntS (ms k n) k = some (k + (n : Int)) := by
  have := iter_fun (step := w_heldIntS_s2 (ms k n)) (fun s => ∃ i, i ≤ n ∧ s = (k + (i : Int), (i : Int))) (fun s => n - s.2.toNat) (fun _ => .inl (k + (n : Int))) (fun s hs => ?_) (s := (k, 0)) ⟨0, by omega, by simp⟩
  · simp only [w_heldIntS, this, Option.bind_some]
  · obtain ⟨i, hi, rfl⟩ := hs
    by_cases h : i < n
    · right
      have hd : decide ((i : Int) < ((ms k n).length : Nat)) = true := by rw [ms_len]; simp; omega
      refine ⟨_, ?_, ⟨i + 1, by omega, rfl⟩, ?_, rfl⟩
      · have hb : (k + (i : Int) != k + (i : Int)) = false := by simp
        simp only [w_heldIntS_s2, hd, cond_true, idx_some (ms_get h), Option.bind_some, hb, cond_false]
        have hw : IntKind.i64.wrap (k + (i : Int) + 1) = k + ((i + 1 : Nat) : Int) := by rw [wrap_id (by omega) (by omega)]; omega
        have hw2 : IntKind.i64.wrap ((i : Int) + 1) = ((i + 1 : Nat) : Int) := by rw [wrap_id (by omega) (by omega)]; omega
        rw [hw, hw2]
      · simp only [Int.toNat_natCast]; omega
    · left
      have hi2 : i = n := by omega
      subst hi2
      have hd : decide ((i : Int) < ((ms k i).length : Nat)) = false := by rw [ms_len]; simp
      simp only [w_heldIntS_s2, hd, cond_false]
end Go.Proofs.Ytgmlnffeiffaaaa
