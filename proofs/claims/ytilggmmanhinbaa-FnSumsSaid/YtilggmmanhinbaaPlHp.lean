/-
  Plain: the laws' helpers for polygons. No condition.
-/
import Derived.Test.YtilggmmanhinbaaPlPd
namespace Go.Proofs.Ytilggmmanhinbaa
open Go Go.Proofs.Ytilggmmanhinbaa.Eng
set_option linter.unusedVariables false
set_option linter.unusedSimpArgs false
/-! The laws' helpers. -/
theorem sameInts_self {xs : List Int} (hl : xs.length ≤ lim) : w_sameInts xs xs = some true := by
  have hlim : lim = 140737488355328 := lim_eq
  have e := iter_up (step := w_sameInts_s4 xs xs) xs.length (fun k => (k : Int)) (.inl ()) (fun k hk => by
    unfold w_sameInts_s4
    rw [show decide ((k : Int) < (xs.length : Int)) = true from by simp; omega, cond_true, idx_nat, List.getElem?_eq_getElem hk]
    simp only [Option.bind_some, bne_self_eq_false, cond_false]
    rw [wrap_id (by omega) (by omega)]
    rfl) (by
    unfold w_sameInts_s4
    rw [show decide ((xs.length : Int) < (xs.length : Int)) = false from by simp, cond_false])
  unfold w_sameInts
  have e : iter (w_sameInts_s4 xs xs) 0 = some (.inl ()) := e
  simp only [bne_self_eq_false, cond_false, e, Option.bind_some]
theorem sameLists_self {xs : List (List Int)} (hl : xs.length ≤ lim) (h : ∀ x ∈ xs, x.length ≤ lim) : w_sameLists xs xs = some true := by
  have hlim : lim = 140737488355328 := lim_eq
  have e := iter_up (step := w_sameLists_s4 xs xs) xs.length (fun k => (k : Int)) (.inl ()) (fun k hk => by
    unfold w_sameLists_s4
    rw [show decide ((k : Int) < (xs.length : Int)) = true from by simp; omega, cond_true, idx_nat, List.getElem?_eq_getElem hk]
    simp only [Option.bind_some, sameInts_self (h _ (List.getElem_mem hk)), Bool.not_true, cond_false]
    rw [wrap_id (by omega) (by omega)]
    rfl) (by
    unfold w_sameLists_s4
    rw [show decide ((xs.length : Int) < (xs.length : Int)) = false from by simp, cond_false])
  unfold w_sameLists
  have e : iter (w_sameLists_s4 xs xs) 0 = some (.inl ()) := e
  simp only [bne_self_eq_false, cond_false, e, Option.bind_some]
theorem new1 : s_DrawPlaceOf_s57_3 = cstep := rfl
theorem drawPlace_ok {code : List Int} (hc : code.length ≤ 1048576) : ∃ p v, s_DrawPlaceOf code = some (p, v) ∧ p.length ≤ 12 ∧ (∀ u ∈ p, u.length ≤ 3) ∧ v.length ≤ 3 ∧ ∀ x ∈ v, -127 ≤ x ∧ x ≤ 255 := by
  unfold s_DrawPlaceOf
  rw [new1]
  obtain ⟨y, e⟩ := new_loop hc (IntKind.i64.wrap (26583 + (code.length : Int)))
  rw [e]
  simp only [Option.bind_some]
  obtain ⟨p, s, a1, a2, _, a3, a4⟩ := l7Bent_ok (s := (code, (0, y))) ⟨by simp, by simp, hc⟩
  have a1 : s_l7Bent (code, (0, y)) = some (p, (s, ())) := a1
  obtain ⟨t, s1, f1, f2⟩ := once_ok a2 (n := 14) (by omega)
  have f1 : s_l1Once (s.1, (s.2.1, s.2.2)) 14 = some (t, (s1, ())) := f1
  obtain ⟨z, g1, g2, g3⟩ := bit_ok t
  have wz : IntKind.i64.wrap (2 + z) = 2 + z := wrap_id (by omega) (by omega)
  obtain ⟨v, s2, k1, k2, k3, k4⟩ := draw_ok f2 (n := 2 + z) (size := 4) (by omega) (by omega) (by omega) (by omega)
  have k1 : s_l2Draw (s1.1, (s1.2.1, s1.2.2)) (2 + z) 4 = some (v, (s2, ())) := k1
  simp only [a1, f1, g1, wz, k1, Option.bind_some]
  exact ⟨p, v, rfl, a3, a4, by omega, k4⟩
end Go.Proofs.Ytilggmmanhinbaa
