/-
  Mirrored polygons. Plain, no condition.
-/
import Derived.Test.YtmdagdopfgiaiaaPlSm
import Derived.Test.YtmdagdopfgiaiaaPlK
import Derived.Test.YtmdagdopfgiaiaaPlY
namespace Go.Proofs.Ytmdagdopfgiaiaa
open Go Go.Proofs.Ytmdagdopfgiaiaa.Eng Hull
set_option linter.unusedVariables false
set_option linter.unusedSimpArgs false
theorem times_in {y : List (List Int)} {i : Nat} {q : Pt} (hi : y[i]? = some (em q)) (hq : Bd 50 q) : iter (i_times_s2 i ((em q).length : Int) (-1)) (0, y) = some (y.set i (em (ng q))) := by
  have hlt := (List.getElem?_eq_some_iff.1 hi).1
  unfold Bd at hq
  have w1 : IntKind.i64.wrap (q.1 * -1) = -q.1 := by rw [wrap_small (by omega) (by omega)]; omega
  have w2 : IntKind.i64.wrap (q.2 * -1) = -q.2 := by rw [wrap_small (by omega) (by omega)]; omega
  have e0 : i_times_s2 i ((em q).length : Int) (-1) (0, y) = some (.inl (1, y.set i [-q.1, q.2])) := by
    unfold i_times_s2
    simp only [hi, Option.bind_some]
    show some (Sum.inl (IntKind.i64.wrap (0 + 1), y.set i [IntKind.i64.wrap (q.1 * -1), q.2])) = _
    rw [w1]; rfl
  have h1 : (y.set i [-q.1, q.2])[i]? = some [-q.1, q.2] := List.getElem?_set_self hlt
  have e1 : i_times_s2 i ((em q).length : Int) (-1) (1, y.set i [-q.1, q.2]) = some (.inl (2, y.set i (em (ng q)))) := by
    unfold i_times_s2
    simp only [h1, Option.bind_some]
    show some (Sum.inl (IntKind.i64.wrap (1 + 1), (y.set i [-q.1, q.2]).set i [-q.1, IntKind.i64.wrap (q.2 * -1)])) = _
    rw [w2, List.set_set]; rfl
  have e2 : i_times_s2 i ((em q).length : Int) (-1) (2, y.set i (em (ng q))) = some (.inr (y.set i (em (ng q)))) := rfl
  rw [iter_next e0, iter_next e1, iter_end e2]
def mixN (P : List Pt) (k : Nat) : List (List Int) := (List.range P.length).map fun j => if j < k then em (ng (at_ P j)) else em (at_ P j)
theorem mixN_get {P : List Pt} {k j : Nat} (h : j < P.length) : (mixN P k)[j]? = some (if j < k then em (ng (at_ P j)) else em (at_ P j)) := by
  unfold mixN
  rw [List.getElem?_map, List.getElem?_range h]; rfl
theorem mixN_len (P : List Pt) (k : Nat) : (mixN P k).length = P.length := by simp [mixN]
theorem mixN_set {P : List Pt} {k : Nat} (h : k < P.length) : (mixN P k).set k (em (ng (at_ P k))) = mixN P (k + 1) := by
  refine List.ext_getElem? fun j => ?_
  rw [List.getElem?_set]
  by_cases hj : j < P.length
  · rw [mixN_get hj, mixN_len]
    by_cases hk : k = j
    · subst hk
      rw [if_pos rfl, if_pos h, mixN_get h, if_pos (by omega)]
    · rw [if_neg hk, mixN_get hj]
      by_cases hl : j < k
      · rw [if_pos hl, if_pos (by omega)]
      · rw [if_neg hl, if_neg (by omega)]
  · have n1 : (mixN P k)[j]? = none := List.getElem?_eq_none (by rw [mixN_len]; omega)
    have n2 : (mixN P (k + 1))[j]? = none := List.getElem?_eq_none (by rw [mixN_len]; omega)
    rw [n1, n2, if_neg (by omega)]
theorem mixN_zero (P : List Pt) : mixN P 0 = P.map em := by
  refine List.ext_getElem? fun j => ?_
  by_cases hj : j < P.length
  · rw [mixN_get hj, if_neg (by omega), List.getElem?_map, at_some hj]; rfl
  · rw [List.getElem?_eq_none (by rw [mixN_len]; omega), List.getElem?_eq_none (by simp; omega)]
theorem mixN_all (P : List Pt) : mixN P P.length = (P.map ng).map em := by
  refine List.ext_getElem? fun j => ?_
  by_cases hj : j < P.length
  · rw [mixN_get hj, if_pos hj, List.getElem?_map, List.getElem?_map, at_some hj]; rfl
  · rw [List.getElem?_eq_none (by rw [mixN_len]; omega), List.getElem?_eq_none (by simp; omega)]
theorem times_eq {P : List Pt} (hB : ∀ q ∈ P, Bd 50 q) (h12 : P.length ≤ 12) : i_times (P.map em) (-1) = some ((P.map ng).map em) := by
  unfold i_times
  rw [copyPoints_eq (by simp; omega) (fun v hv => by
    obtain ⟨q, _, rfl⟩ := List.mem_map.1 hv
    simp [em])]
  simp only [Option.bind_some]
  have A := iter_up (step := i_times_s1 ((P.map em).length : Int) (-1)) P.length (fun k => ((k : Int), mixN P k)) (mixN P P.length) (fun k hk => by
    have hg : (mixN P k)[k]? = some (em (at_ P k)) := by rw [mixN_get hk, if_neg (by omega)]
    unfold i_times_s1
    simp only
    rw [show decide ((k : Int) < ((P.map em).length : Int)) = true from by simp; omega, cond_true, inIdx_nat (by rw [mixN_len]; exact hk)]
    simp only [Option.bind_some, Int.toNat_natCast]
    rw [if_pos (by rw [mixN_len]; exact hk), hg]
    simp only [Option.bind_some]
    rw [times_in hg (hB _ (at_mem hk))]
    simp only [Option.bind_some]
    rw [mixN_set hk, wrap_small (x := (k : Int) + 1) (by omega) (by omega)]
    rfl) (by
    unfold i_times_s1
    simp)
  have e0 : ((0 : Int), P.map em) = (((0 : Nat) : Int), mixN P 0) := by rw [mixN_zero]; rfl
  rw [e0, A, mixN_all]
  rfl
def mirS (p : List (List Int)) : List (List Int) × Bool := if isPoly p then hullS (((p.map toP).map ng).map em) else ([], false)
theorem mirror_eq {p : List (List Int)} (hp : FitLL p) : s_MirrorPolygon p = some (mirS p) ∧ i_MirrorPolygon p = some (mirS p) := by
  unfold s_MirrorPolygon i_MirrorPolygon mirS
  rw [s_IsPolygon_eq hp.lim hp.eachLim, i_IsPolygon_eq hp.lim hp.eachLim]
  simp only [Option.bind_some]
  cases h1 : isPoly p with
  | false => exact ⟨rfl, rfl⟩
  | true =>
    obtain ⟨P, rfl, hB, g3, g12, hpol⟩ := poly_of h1
    rw [Bool.not_true, cond_false, cond_false, if_pos rfl, map_toP, times_eq hB g12]
    have rs : ∀ {k : Nat}, k < P.length → (((P.take (k + 1)).map ng).map em) = ((P.take k).map ng).map em ++ [em (ng (at_ P k))] := fun {k} hk => by
      rw [List.take_add_one, at_some hk]; simp
    have A := iter_up (step := s_MirrorPolygon_s5 (P.map em)) P.length (fun k => (((P.take k).map ng).map em, (k : Int))) ((P.map ng).map em) (fun k hk => by
      have hb := hB _ (at_mem hk)
      have hsc : s_l2Scale (em (at_ P k)) (-1) = some (em (ng (at_ P k))) := by
        rw [l2Scale_eq (by simp [em]) (fun x hx => by
          unfold Bd at hb
          simp only [em, List.mem_cons, List.not_mem_nil, or_false] at hx
          unfold Tn
          rcases hx with rfl | rfl <;> omega) (by unfold Tn; omega)]
        simp only [em, ng, List.map_cons, List.map_nil]
        congr 1
        congr 1
        · omega
        · congr 1; omega
      unfold s_MirrorPolygon_s5
      simp only
      rw [show decide ((k : Int) < ((P.map em).length : Int)) = true from by simp; omega, cond_true, idxP hk]
      simp only [Option.bind_some]
      rw [hsc]
      simp only [Option.bind_some]
      rw [appD_some (by simp [lim_eq]; omega) (by simp [lim_eq]; omega), wrap_small (x := (k : Int) + 1) (by omega) (by omega), rs hk]
      rfl) (by
      unfold s_MirrorPolygon_s5
      simp)
    have e0 : (([], 0) : List (List Int) × Int) = (((P.take 0).map ng).map em, ((0 : Nat) : Int)) := by simp
    rw [e0, A]
    simp only [Option.bind_some]
    have hl : ((P.map ng).map em).length ≤ lim := by simp [lim_eq]; omega
    have hx : ∀ v ∈ (P.map ng).map em, v.length ≤ lim := fun v hv => by
      obtain ⟨q, _, rfl⟩ := List.mem_map.1 hv
      simp [em, lim_eq]
    rw [s_HullOf_eq hl hx, i_HullOf_eq hl hx]
    exact ⟨rfl, rfl⟩
end Go.Proofs.Ytmdagdopfgiaiaa
