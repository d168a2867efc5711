/-
  Sums of polygons, their areas. Plain, no condition.
-/
import Derived.Test.YtilggmmanhinbaaPlHl
import Derived.Test.YtilggmmanhinbaaPlL
import Derived.Test.YtilggmmanhinbaaPlMs
namespace Go.Proofs.Ytilggmmanhinbaa
open Go Go.Proofs.Ytilggmmanhinbaa.Eng Hull
set_option linter.unusedVariables false
set_option linter.unusedSimpArgs false
theorem hullS_false {p : List (List Int)} (h : (hullS p).2 = false) : hullS p = ([], false) := by
  unfold hullS at h ⊢
  split at h
  · rename_i h1
    rw [if_pos h1]
    simp only at h ⊢
    split at h
    · cases h
    · rename_i h2
      rw [if_neg h2]
  · rename_i h1
    rw [if_neg h1]
theorem hullS_cond (p : List (List Int)) : cond (!(hullS p).2) (some (([] : List (List Int)), false)) (some ((hullS p).1, true)) = some (hullS p) := by
  cases h : (hullS p).2 with
  | false => rw [hullS_false h]; rfl
  | true =>
    show some ((hullS p).1, true) = _
    rw [← h]
theorem hullS_poly {p : List (List Int)} (h : (hullS p).2 = true) : isPoly (hullS p).1 = true := by
  unfold hullS at h ⊢
  split at h
  · rename_i h1
    rw [if_pos h1]
    simp only at h ⊢
    split at h
    · rename_i h2
      rw [if_pos h2]
      obtain ⟨P, rfl, hB⟩ := pts_of h1.2
      rw [map_toP] at h2 ⊢
      have hs : ∀ q ∈ Hull.hull (Hull.sorted P), Bd 50 q := fun q hq => by
        unfold Hull.hull at hq
        rcases List.mem_append.1 hq with hq | hq
        · have hq := (List.dropLast_sublist _).subset hq
          rw [List.mem_reverse] at hq
          rcases fold_push_sub _ _ q hq with h | h
          · exact hB q (((sorted_spec P).2 q).1 h)
          · simp at h
        · have hq := (List.dropLast_sublist _).subset hq
          rw [List.mem_reverse] at hq
          rcases fold_push_sub _ _ q hq with h | h
          · exact hB q (((sorted_spec P).2 q).1 (by simpa using h))
          · simp at h
      exact (isPoly_iff hs).2 ⟨h2.2.2, pol_hull (sorted_spec P).1 h2.2.1⟩
    · cases h
  · cases h
theorem poly_fit {p : List (List Int)} (h : isPoly p = true) : p.length ≤ 12 ∧ ∀ v ∈ p, v.length = 2 := by
  obtain ⟨P, rfl, hB, g3, g12, _⟩ := poly_of h
  refine ⟨by simpa using g12, fun v hv => ?_⟩
  obtain ⟨q, _, rfl⟩ := List.mem_map.1 hv
  rfl
theorem hullS_fit {p : List (List Int)} : (hullS p).1.length ≤ 12 ∧ ∀ v ∈ (hullS p).1, v.length = 2 := by
  cases h : (hullS p).2 with
  | false => rw [hullS_false h]; simp
  | true => exact poly_fit (hullS_poly h)
/-! Sums. -/
def addP (a b : Pt) : Pt := (a.1 + b.1, a.2 + b.2)
def sumsP (P Q : List Pt) : List Pt := P.flatMap fun a => Q.map fun b => addP a b
theorem l2Add_em {a b : Pt} (ha : Bd 1000 a) (hb : Bd 1000 b) : s_l2Add (em a) (em b) = some (em (addP a b)) := by
  unfold Bd at ha hb
  have e0 : s_l2Add_s3 (em a) (em b) ([], 0) = some (.inl ([a.1 + b.1], 1)) := by
    show cond (decide ((0 : Int) < 2)) ((idx (em a) 0).bind fun v2 => (idx (em b) 0).bind fun v3 => (appD 8 ([] : List Int) [IntKind.i64.wrap (v2 + v3)]).bind fun v4 => some (Sum.inl (v4, IntKind.i64.wrap (0 + 1)))) _ = _
    simp only [show decide ((0 : Int) < 2) = true from rfl, cond_true, Option.bind_some, (idx_em a).1, (idx_em b).1]
    rw [appD_some (by simp [lim_eq]) (by simp [lim_eq]), wrap_small (by omega) (by omega)]
    rfl
  have e1 : s_l2Add_s3 (em a) (em b) ([a.1 + b.1], 1) = some (.inl ([a.1 + b.1, a.2 + b.2], 2)) := by
    show cond (decide ((1 : Int) < 2)) ((idx (em a) 1).bind fun v2 => (idx (em b) 1).bind fun v3 => (appD 8 [a.1 + b.1] [IntKind.i64.wrap (v2 + v3)]).bind fun v4 => some (Sum.inl (v4, IntKind.i64.wrap (1 + 1)))) _ = _
    simp only [show decide ((1 : Int) < 2) = true from rfl, cond_true, Option.bind_some, (idx_em a).2, (idx_em b).2]
    rw [appD_some (by simp [lim_eq]) (by simp [lim_eq]), wrap_small (by omega) (by omega)]
    rfl
  have e2 : s_l2Add_s3 (em a) (em b) ([a.1 + b.1, a.2 + b.2], 2) = some (.inr [a.1 + b.1, a.2 + b.2]) := rfl
  unfold s_l2Add
  rw [iter_next e0, iter_next e1, iter_end e2]
  rfl
theorem sums_len (P Q : List Pt) : (sumsP P Q).length = P.length * Q.length := by
  unfold sumsP
  induction P with
  | nil => simp
  | cons x P ih => simp only [List.flatMap_cons, List.length_append, List.length_map, List.length_cons]; rw [ih, Nat.succ_mul]; omega
theorem sums_take (P Q : List Pt) {k : Nat} {a : Pt} (h : P[k]? = some a) : sumsP (P.take (k + 1)) Q = sumsP (P.take k) Q ++ Q.map fun b => addP a b := by
  unfold sumsP
  rw [List.take_add_one, h, List.flatMap_append]
  simp
def sumP (p q : List (List Int)) : List (List Int) × Bool := if isPoly p && isPoly q then hullS ((sumsP (p.map toP) (q.map toP)).map em) else ([], false)
theorem sum_eq {p q : List (List Int)} (hp : FitLL p) (hq : FitLL q) : s_SumPolygons p q = some (sumP p q) ∧ i_SumPolygons p q = some (sumP p q) := by
  unfold s_SumPolygons i_SumPolygons sumP
  rw [s_IsPolygon_eq hp.lim hp.eachLim, i_IsPolygon_eq hp.lim hp.eachLim, s_IsPolygon_eq hq.lim hq.eachLim, i_IsPolygon_eq hq.lim hq.eachLim]
  simp only [Option.bind_some]
  cases h1 : isPoly p with
  | false => exact ⟨rfl, rfl⟩
  | true =>
    cases h2 : isPoly q with
    | false => exact ⟨rfl, rfl⟩
    | true =>
      obtain ⟨P, rfl, pB, p3, p12, pP⟩ := poly_of h1
      obtain ⟨Q, rfl, qB, q3, q12, qP⟩ := poly_of h2
      simp only [Bool.not_true, cond_false, Bool.and_self, if_true, map_toP]
      have big : ∀ k, (sumsP (P.take k) Q).length ≤ 144 := fun k => by
        rw [sums_len]
        have h1 : (P.take k).length ≤ 12 := by simp; omega
        exact Nat.le_trans (Nat.mul_le_mul h1 q12) (by decide)
      have wS : ∀ {a : Pt} {k : Nat}, P[k]? = some a → ∀ v3 : List (List Int) × Int, v3.1 = (sumsP (P.take k) Q).map em → v3.2 = (k : Int) → iter (s_SumPolygons_s8 (P.map em) (Q.map em) v3) (v3.1, 0) = some ((sumsP (P.take (k + 1)) Q).map em) := fun {a k} hk v3 e1 e2 => by
        have ha := List.mem_of_getElem? hk
        have hb := big k
        have := iter_up (step := s_SumPolygons_s8 (P.map em) (Q.map em) v3) Q.length (fun j => ((sumsP (P.take k) Q ++ (Q.take j).map fun b => addP a b).map em, (j : Int))) ((sumsP (P.take (k + 1)) Q).map em) (fun j hj => by
          have hg : Q[j]? = some Q[j] := List.getElem?_eq_getElem hj
          unfold s_SumPolygons_s8
          simp only
          rw [show decide ((j : Int) < ((Q.map em).length : Int)) = true from by simp; omega, cond_true, e2]
          have i1 : idx (P.map em) (k : Int) = some (em a) := idx_some (by rw [List.getElem?_map, hk]; rfl)
          have i2 : idx (Q.map em) (j : Int) = some (em Q[j]) := idx_some (by rw [List.getElem?_map, hg]; rfl)
          rw [i1, i2]
          simp only [Option.bind_some]
          rw [l2Add_em ((pB a ha).mono (by decide)) ((qB _ (List.getElem_mem hj)).mono (by decide))]
          simp only [Option.bind_some]
          rw [appD_some (by rw [lim_eq]; simp; omega) (by rw [lim_eq]; simp; omega), wrap_small (x := (j : Int) + 1) (by omega) (by omega), List.take_add_one, hg]
          simp only [Option.toList_some, List.map_append, List.map_cons, List.map_nil, List.append_assoc]
          rfl) (by
          unfold s_SumPolygons_s8
          simp only
          rw [show decide ((Q.length : Int) < ((Q.map em).length : Int)) = false from by simp, cond_false, List.take_length, sums_take P Q hk])
        have e0 : (v3.1, (0 : Int)) = ((sumsP (P.take k) Q ++ (Q.take 0).map fun b => addP a b).map em, ((0 : Nat) : Int)) := by rw [e1]; simp
        rw [e0, this]
      have wI : ∀ {a : Pt} {k : Nat}, P[k]? = some a → iter (i_SumPolygons_s8 (Q.map em) (em a)) ((sumsP (P.take k) Q).map em, 0) = some ((sumsP (P.take (k + 1)) Q).map em) := fun {a k} hk => by
        have ha := List.mem_of_getElem? hk
        have hb := big k
        have hab := pB a ha
        unfold Bd at hab
        have := iter_up (step := i_SumPolygons_s8 (Q.map em) (em a)) Q.length (fun j => ((sumsP (P.take k) Q ++ (Q.take j).map fun b => addP a b).map em, (j : Int))) ((sumsP (P.take (k + 1)) Q).map em) (fun j hj => by
          have hg : Q[j]? = some Q[j] := List.getElem?_eq_getElem hj
          have hqb := qB _ (List.getElem_mem hj)
          unfold Bd at hqb
          unfold i_SumPolygons_s8
          simp only
          rw [show decide ((j : Int) < ((Q.map em).length : Int)) = true from by simp; omega, cond_true]
          have i2 : idx (Q.map em) (j : Int) = some (em Q[j]) := idx_some (by rw [List.getElem?_map, hg]; rfl)
          rw [i2]
          simp only [Option.bind_some, (idx_em a).1, (idx_em a).2, (idx_em Q[j]).1, (idx_em Q[j]).2]
          rw [wrap_small (x := a.1 + Q[j].1) (by omega) (by omega), wrap_small (x := a.2 + Q[j].2) (by omega) (by omega)]
          rw [appD_some (by rw [lim_eq]; simp; omega) (by rw [lim_eq]; simp; omega), wrap_small (x := (j : Int) + 1) (by omega) (by omega), List.take_add_one, hg]
          simp only [Option.toList_some, List.map_append, List.map_cons, List.map_nil, List.append_assoc]
          rfl) (by
          unfold i_SumPolygons_s8
          simp only
          rw [show decide ((Q.length : Int) < ((Q.map em).length : Int)) = false from by simp, cond_false, List.take_length, sums_take P Q hk])
        have e0 : ((sumsP (P.take k) Q).map em, (0 : Int)) = ((sumsP (P.take k) Q ++ (Q.take 0).map fun b => addP a b).map em, ((0 : Nat) : Int)) := by simp
        rw [e0, this]
      have S := iter_up (step := s_SumPolygons_s5 (P.map em) (Q.map em)) P.length (fun k => ((sumsP (P.take k) Q).map em, (k : Int))) ((sumsP P Q).map em) (fun k hk => by
        have hg : P[k]? = some P[k] := List.getElem?_eq_getElem hk
        unfold s_SumPolygons_s5
        simp only
        rw [show decide ((k : Int) < ((P.map em).length : Int)) = true from by simp; omega, cond_true, wS hg ((sumsP (P.take k) Q).map em, (k : Int)) rfl rfl]
        simp only [Option.bind_some]
        rw [wrap_small (x := (k : Int) + 1) (by omega) (by omega)]
        rfl) (by
        unfold s_SumPolygons_s5
        simp)
      have T := iter_up (step := i_SumPolygons_s5 (P.map em) (Q.map em)) P.length (fun k => ((sumsP (P.take k) Q).map em, (k : Int))) ((sumsP P Q).map em) (fun k hk => by
        have hg : P[k]? = some P[k] := List.getElem?_eq_getElem hk
        unfold i_SumPolygons_s5
        simp only
        rw [show decide ((k : Int) < ((P.map em).length : Int)) = true from by simp; omega, cond_true]
        have i1 : idx (P.map em) (k : Int) = some (em P[k]) := idx_some (by rw [List.getElem?_map, hg]; rfl)
        rw [i1]
        simp only [Option.bind_some]
        rw [wI hg]
        simp only [Option.bind_some]
        rw [wrap_small (x := (k : Int) + 1) (by omega) (by omega)]
        rfl) (by
        unfold i_SumPolygons_s5
        simp)
      have hlen : ((sumsP P Q).map em).length ≤ lim := by
        have := big P.length
        rw [List.take_length] at this
        rw [List.length_map, lim_eq]; omega
      have heach : ∀ v ∈ (sumsP P Q).map em, v.length ≤ lim := fun v hv => by
        obtain ⟨q, _, rfl⟩ := List.mem_map.1 hv
        simp [em, lim_eq]
      have e0 : ((([] : List (List Int)), 0) : List (List Int) × Int) = ((sumsP (P.take 0) Q).map em, ((0 : Nat) : Int)) := by simp [sumsP]
      rw [e0, S, T]
      simp only [Option.bind_some]
      rw [s_HullOf_eq hlen heach, i_HullOf_eq hlen heach]
      simp only [Option.bind_some]
      exact ⟨hullS_cond _, trivial⟩
theorem sum_fit {p q : List (List Int)} : (sumP p q).1.length ≤ 12 ∧ ∀ v ∈ (sumP p q).1, v.length = 2 := by
  unfold sumP
  split
  · exact hullS_fit
  · simp
theorem mixed_eq {p q : List (List Int)} (hp : FitLL p) (hq : FitLL q) : ∃ n, s_MixedArea p q = some n ∧ i_MixedArea p q = some n := by
  obtain ⟨h1, h2⟩ := sum_eq hp hq
  unfold s_MixedArea i_MixedArea
  rw [h1, h2]
  simp only [Option.bind_some]
  cases hs : (sumP p q).2 with
  | false => exact ⟨-1, rfl, rfl⟩
  | true =>
    unfold sumP at hs ⊢
    split at hs
    · rename_i hc
      rw [if_pos hc]
      simp only [Bool.and_eq_true] at hc
      have hH := hullS_poly hs
      have ar : ∀ {p : List (List Int)}, isPoly p = true → p.length ≤ lim → (∀ v ∈ p, v.length ≤ lim) → ∃ A, s_l7Area p = some A ∧ i_AreaTwice p = some A := fun {p} h hl hx => by
        obtain ⟨P, rfl, hB, g3, g12, _⟩ := poly_of h
        obtain ⟨A, hA⟩ := area_some hB g12
        refine ⟨A, hA, ?_⟩
        unfold i_AreaTwice
        rw [i_IsPolygon_eq hl hx, h]
        simp only [Option.bind_some, Bool.not_true, cond_false, area_same, hA]
      obtain ⟨f1, f2⟩ := poly_fit hH
      obtain ⟨A, a1, a2⟩ := ar hH (by rw [lim_eq]; omega) (fun v hv => by rw [f2 v hv, lim_eq]; omega)
      obtain ⟨B, b1, b2⟩ := ar hc.1 hp.lim hp.eachLim
      obtain ⟨D, d1, d2⟩ := ar hc.2 hq.lim hq.eachLim
      rw [a1, a2, b1, b2, d1, d2]
      exact ⟨_, rfl, rfl⟩
    · cases hs
end Go.Proofs.Ytilggmmanhinbaa
