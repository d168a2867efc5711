/-
  Plain: the laws' helpers for polygons. No condition.
-/
import Derived.Test.YtgbkkmidloeciaaGreatPlPd
namespace Go.Proofs.YtgbkkmidloeciaaGreat
open Go Go.Proofs.YtgbkkmidloeciaaGreat.Eng
set_option linter.unusedVariables false
set_option linter.unusedSimpArgs false
/-! The laws' helpers. -/
theorem sameInts_self {xs : List Int} (hl : xs.length ≤ lim) : w_sameInts xs xs = some true := by
  have hlim : lim = 140737488355328 := lim_eq
  have e := iter_up (step := w_sameInts_s4 xs xs) xs.length (fun k => (k : Int)) (.inl ()) (fun k hk => by
    unfold w_sameInts_s4
    rw [show decide ((k : Int) < (xs.length : Int)) = true from by simp; omega, cond_true, idx_nat, List.getElem?_eq_getElem hk]
    simp only [Option.bind_some, bne_self_eq_false, cond_false]
    rw [wrap_id (by omega) (by omega)]
    rfl) (by
    unfold w_sameInts_s4
    rw [show decide ((xs.length : Int) < (xs.length : Int)) = false from by simp, cond_false])
  unfold w_sameInts
  have e : iter (w_sameInts_s4 xs xs) 0 = some (.inl ()) := e
  simp only [bne_self_eq_false, cond_false, e, Option.bind_some]
theorem sameLists_self {xs : List (List Int)} (hl : xs.length ≤ lim) (h : ∀ x ∈ xs, x.length ≤ lim) : w_sameLists xs xs = some true := by
  have hlim : lim = 140737488355328 := lim_eq
  have e := iter_up (step := w_sameLists_s4 xs xs) xs.length (fun k => (k : Int)) (.inl ()) (fun k hk => by
    unfold w_sameLists_s4
    rw [show decide ((k : Int) < (xs.length : Int)) = true from by simp; omega, cond_true, idx_nat, List.getElem?_eq_getElem hk]
    simp only [Option.bind_some, sameInts_self (h _ (List.getElem_mem hk)), Bool.not_true, cond_false]
    rw [wrap_id (by omega) (by omega)]
    rfl) (by
    unfold w_sameLists_s4
    rw [show decide ((xs.length : Int) < (xs.length : Int)) = false from by simp, cond_false])
  unfold w_sameLists
  have e : iter (w_sameLists_s4 xs xs) 0 = some (.inl ()) := e
  simp only [bne_self_eq_false, cond_false, e, Option.bind_some]
theorem sum_take_succ {xs : List Int} {k : Nat} (hk : k < xs.length) : (xs.take (k + 1)).sum = (xs.take k).sum + xs[k] := by
  rw [List.take_add_one, List.getElem?_eq_getElem hk, List.sum_append]
  simp
theorem sum_bd {M : Int} (hM : 0 ≤ M) : ∀ (xs : List Int), (∀ x ∈ xs, -M ≤ x ∧ x ≤ M) → -(M * xs.length) ≤ xs.sum ∧ xs.sum ≤ M * xs.length
  | [], _ => by simp
  | x :: xs, h => by
    have ih := sum_bd hM xs fun y hy => h y (List.mem_cons_of_mem _ hy)
    have hx := h x (by simp)
    have e : M * ((x :: xs).length : Int) = M * xs.length + M := by simp only [List.length_cons]; grind
    rw [List.sum_cons]
    omega
theorem total_eq {xs : List Int} (hl : xs.length ≤ 1000000) (h : ∀ x ∈ xs, -1000000 ≤ x ∧ x ≤ 1000000) : w_total xs = some xs.sum := by
  have e := iter_up (step := w_total_s3 xs) xs.length (fun k => ((xs.take k).sum, (k : Int))) xs.sum (fun k hk => by
    have hb := sum_bd (M := 1000000) (by omega) (xs.take k) fun x hx => h x (List.mem_of_mem_take hx)
    have hx := h _ (List.getElem_mem hk)
    have hlen : ((xs.take k).length : Int) ≤ 1000000 := by simp; omega
    unfold w_total_s3
    simp only
    rw [show decide ((k : Int) < (xs.length : Int)) = true from by simp; omega, cond_true, idx_nat, List.getElem?_eq_getElem hk]
    simp only [Option.bind_some]
    rw [wrap_id (by omega) (by omega), wrap_id (by omega) (by omega), sum_take_succ hk]
    rfl) (by
    unfold w_total_s3
    simp only [List.take_length]
    rw [show decide ((xs.length : Int) < (xs.length : Int)) = false from by simp, cond_false])
  unfold w_total
  have e : iter (w_total_s3 xs) (0, 0) = some xs.sum := by simpa using e
  rw [e]
  rfl
end Go.Proofs.YtgbkkmidloeciaaGreat
