/-
  Marks of slices inside slices. Plain, no condition.
-/
import Derived.Test.YtidgakjdlamegaaPlM
namespace Go.Proofs.Ytidgakjdlamegaa
open Go Go.Proofs.Ytidgakjdlamegaa.Eng
set_option linter.unusedVariables false
set_option linter.unusedSimpArgs false

theorem castT_self (t : Ty) (x : t.den) : castT t t x = some x := by
  unfold castT
  cases h : decEq t t with
  | isTrue e => rfl
  | isFalse e => exact absurd rfl e

theorem updAt_list (m : InnerE) (x : List m.t.den) (n : Int) {z : List m.t.den} {n' : Int} (h : m.F x n = some (z, n')) : updAt m (.list m.t) x 0 n = some (z, n') := by
  simp only [updAt]
  rw [castT_self]
  simp only [Option.bind_some, h]
  rw [castT_self]
  rfl

theorem d_markIntS_eq {xs : List Int} (hl : xs.length ≤ 2097152) {n : Int} (h0 : 0 ≤ n) (h1 : n ≤ 2199023255552) : ∃ ys, d_markIntS xs n = some (ys, n + xs.length) ∧ ys.length = xs.length := by
  obtain ⟨y, e, hy⟩ := iter_run (step := d_markIntS_s) (fun s => 0 ≤ s.2.1 ∧ s.2.1 ≤ xs.length ∧ s.1 = n + s.2.1 ∧ s.2.2.length = xs.length) (fun s => xs.length - s.2.1.toNat) (fun _ y => y.1 = n + xs.length ∧ y.2.length = xs.length) (fun s hs => by
    obtain ⟨c, i, y⟩ := s
    obtain ⟨g0, g1, g2, g3⟩ := hs
    simp only at g0 g1 g2 g3
    unfold d_markIntS_s
    simp only
    by_cases h : i < xs.length
    · right
      have hg : y[i.toNat]? = some (y[i.toNat]'(by omega)) := List.getElem?_eq_getElem (by omega)
      rw [show decide (i < (y.length : Int)) = true from by simp; omega, cond_true, hg]
      have hin : inIdx y.length i = some () := by unfold inIdx; rw [if_pos (by omega)]
      rw [hin]
      refine ⟨_, rfl, ?_, ?_, fun z hz => hz⟩
      · simp only
        rw [wrap_id (by omega) (by omega), wrap_id (by omega) (by omega)]
        exact ⟨by omega, by omega, by omega, by simpa using g3⟩
      · simp only
        rw [wrap_id (x := i + 1) (by omega) (by omega)]
        omega
    · left
      rw [show decide (i < (y.length : Int)) = false from by simp; omega, cond_false]
      exact ⟨_, rfl, by simp only; omega, g3⟩) (n, 0, xs) ⟨by simp, by simp, by simp, rfl⟩
  unfold d_markIntS
  rw [e]
  exact ⟨y.2, by simp only [Option.bind_some]; rw [hy.1], hy.2⟩

theorem d_markIntSS_eq {xs : List (List Int)} (hl : xs.length ≤ 2097152) (hx : ∀ y ∈ xs, y.length ≤ 2097152) (ht : (xs.map List.length).sum ≤ 1048576) {n : Int} (h0 : 0 ≤ n) (h1 : n ≤ 1099511627776) :
    ∃ ys, d_markIntSS xs n = some (ys, n + ((xs.map List.length).sum : Nat)) := by
  obtain ⟨y, e, hy⟩ := iter_run (step := d_markIntSS_s) (fun s => 0 ≤ s.2.1 ∧ s.2.1 ≤ xs.length ∧ s.2.2.length = xs.length ∧ s.1 + (((s.2.2.drop s.2.1.toNat).map List.length).sum : Nat) = n + ((xs.map List.length).sum : Nat) ∧ n ≤ s.1 ∧ ∀ y ∈ s.2.2.drop s.2.1.toNat, y.length ≤ 2097152) (fun s => xs.length - s.2.1.toNat) (fun _ y => y.1 = n + ((xs.map List.length).sum : Nat)) (fun s hs => by
    obtain ⟨c, i, y⟩ := s
    obtain ⟨g0, g1, g2, g3, g4, g5⟩ := hs
    simp only at g0 g1 g2 g3 g4 g5
    unfold d_markIntSS_s
    simp only
    by_cases h : i < xs.length
    · right
      have hlt : i.toNat < y.length := by omega
      have hg : y[i.toNat]? = some y[i.toNat] := List.getElem?_eq_getElem hlt
      have hdrop : y.drop i.toNat = y[i.toNat] :: y.drop (i.toNat + 1) := List.drop_eq_getElem_cons hlt
      rw [hdrop] at g3 g5
      simp only [List.map_cons, List.sum_cons] at g3
      obtain ⟨z, m1, m2⟩ := d_markIntS_eq (xs := y[i.toNat]) (g5 _ List.mem_cons_self) (n := c) (by omega) (by omega)
      rw [show decide (i < (y.length : Int)) = true from by simp; omega, cond_true, hg]
      have hin : inIdx y.length i = some () := by unfold inIdx; rw [if_pos (by omega)]
      have hu : updAt i_d_markIntS (.list (.int .i64)) y[i.toNat] 0 c = some (z, c + (y[i.toNat].length : Int)) := by
        exact updAt_list i_d_markIntS y[i.toNat] c m1
      rw [hin]
      simp only [Option.bind_some]
      rw [if_pos ⟨hlt, by decide⟩, hu]
      refine ⟨_, rfl, ?_, ?_, fun z hz => hz⟩
      · simp only
        rw [wrap_id (x := i + 1) (by omega) (by omega), show (i + 1).toNat = i.toNat + 1 from by omega, List.drop_set_of_lt (by omega)]
        exact ⟨by omega, by omega, by simpa using g2, by omega, by omega, fun q hq => g5 q (List.mem_cons_of_mem _ hq)⟩
      · simp only
        rw [wrap_id (x := i + 1) (by omega) (by omega)]
        omega
    · left
      rw [show decide (i < (y.length : Int)) = false from by simp; omega, cond_false]
      refine ⟨_, rfl, ?_⟩
      have : y.drop i.toNat = [] := List.drop_of_length_le (by omega)
      rw [this] at g3
      simp at g3 ⊢
      omega) (n, 0, xs) ⟨by simp, by simp, rfl, by simp, by simp, by simpa using hx⟩
  unfold d_markIntSS
  rw [e]
  exact ⟨y.2, by simp only [Option.bind_some]; rw [hy]⟩

end Go.Proofs.Ytidgakjdlamegaa
