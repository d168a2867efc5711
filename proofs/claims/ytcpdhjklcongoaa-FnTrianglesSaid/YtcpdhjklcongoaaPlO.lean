/-
  Empty triangles in the program; the law. Plain, no condition.
-/
import Derived.Test.YtcpdhjklcongoaaPlN
namespace Go.Proofs.Ytcpdhjklcongoaa
open Go Go.Proofs.Ytcpdhjklcongoaa.Eng
open Hull (Pt tn lx at_ at_some at_mem)
set_option linter.unusedVariables false
set_option linter.unusedSimpArgs false
theorem fp6 {a b c d : Int} {k : Int} {q : Pt} : iter (i_firstPoint_s6 ([a, b], ([c, d], k)) (em q)) ([a, b], ([c, d], 0)) = some ([mn a q.1, mn b q.2], [mx c q.1, mx d q.2]) := by
  have h1 : i_firstPoint_s6 ([a, b], ([c, d], k)) (em q) ([a, b], ([c, d], 0)) = some (.inl ([mn a q.1, b], ([mx c q.1, d], 1))) := rfl
  have h2 : i_firstPoint_s6 ([a, b], ([c, d], k)) (em q) ([mn a q.1, b], ([mx c q.1, d], 1)) = some (.inl ([mn a q.1, mn b q.2], ([mx c q.1, mx d q.2], 2))) := rfl
  have h3 : i_firstPoint_s6 ([a, b], ([c, d], k)) (em q) ([mn a q.1, mn b q.2], ([mx c q.1, mx d q.2], 2)) = some (.inr ([mn a q.1, mn b q.2], [mx c q.1, mx d q.2])) := rfl
  rw [iter_next h1, iter_next h2, iter_end h3]
theorem fp3 {P : List Pt} (hl : P.length ≤ 1000) : iter (i_firstPoint_s3 (P.map em)) ([(at_ P 0).1, (at_ P 0).2], ([(at_ P 0).1, (at_ P 0).2], 0)) = some ([lo (·.1) P, lo (·.2) P], [hi (·.1) P, hi (·.2) P]) := by
  have A := iter_up (step := i_firstPoint_s3 (P.map em)) P.length (fun k => ([(P.take k).foldl (fun m q => mn m q.1) (at_ P 0).1, (P.take k).foldl (fun m q => mn m q.2) (at_ P 0).2], ([(P.take k).foldl (fun m q => mx m q.1) (at_ P 0).1, (P.take k).foldl (fun m q => mx m q.2) (at_ P 0).2], (k : Int)))) ([lo (·.1) P, lo (·.2) P], [hi (·.1) P, hi (·.2) P]) (fun k hk => by
    unfold i_firstPoint_s3
    have hd : decide ((k : Int) < ((P.map em).length : Int)) = true := by simp; omega
    simp only [hd, cond_true, idxP hk, Option.bind_some, fp6]
    rw [wrap_small (by omega) (by omega), foldl_take_succ _ (at_some hk), foldl_take_succ _ (at_some hk), foldl_take_succ _ (at_some hk), foldl_take_succ _ (at_some hk)]
    rfl) (by
    unfold i_firstPoint_s3
    simp [lo, hi])
  exact A
/-- Where a point stands among the corners. -/
theorem idxf {T : List (List Int)} {v : List Int} (hl : T.length ≤ 1000) (hT : ∀ w ∈ T, w.length ≤ 1000) : (iter (i_firstPoint_s80_2 T v) 0 = some (.inl ()) ∧ v ∉ T) ∨ ∃ k : Nat, iter (i_firstPoint_s80_2 T v) 0 = some (.inr (k : Int)) ∧ v ∈ T := by
  have D := iter_find (step := i_firstPoint_s80_2 T v) T.length (fun k => (k : Int)) (fun k => if T[k]? = some v then some (.inr (k : Int)) else none) (.inl ()) (fun k hk => by
    have hg : T[k]? = some T[k] := List.getElem?_eq_getElem hk
    unfold i_firstPoint_s80_2
    rw [show decide ((k : Int) < (T.length : Int)) = true from by simp; omega, cond_true, idx_some hg]
    simp only [Option.bind_some]
    rw [slEqual_eq (by have := hT _ (List.getElem_mem hk); rw [lim_eq]; omega), wrap_small (by omega) (by omega), hg]
    simp only [Option.bind_some]
    by_cases h : T[k] = v
    · rw [h, if_pos rfl]; simp [fnd]
    · rw [if_neg (by simpa using h), show (T[k] == v) = false from beq_eq_false_iff_ne.2 h]; rfl) (by
    unfold i_firstPoint_s80_2
    simp)
  rcases D with ⟨d1, d2⟩ | ⟨k, r, d1, d2, d3⟩
  · refine .inl ⟨d1, fun hv => ?_⟩
    obtain ⟨k, hk, e⟩ := List.mem_iff_getElem.1 hv
    have := d2 k hk
    rw [if_pos (by rw [List.getElem?_eq_getElem hk, e])] at this
    cases this
  · split at d2
    · rename_i h
      cases d2
      exact .inr ⟨k, d3, List.mem_of_getElem? h⟩
    · cases d2
/-- One look for a point. -/
theorem look {step : Int → Option (Int ⊕ (Unit ⊕ List Int))} {T : List (List Int)} {O : List Pt} {L : List (List Int)} (hT : T.length ≤ 1000) (hT2 : ∀ w ∈ T, w.length ≤ 1000)
    (hO : ∀ q ∈ O, Bd 50 q) (hO2 : O.length ≤ 1000) (hL : ∀ v ∈ L, ∃ q : Pt, v = em q ∧ Bd 50 q) (hl : L.length ≤ 40000)
    (hstep : ∀ k, step k = cond (decide (k < (L.length : Int)))
 ((idx L k).bind fun v36 => (i_placeOf (O.map em) v36).bind fun v37 => cond (decide (v37 ≥ (0 : Int)))
 ((iter (i_firstPoint_s80_2 T v36) (0 : Int)).bind fun v41 => match v41 with
 | .inl v42 => (cond (!decide ((-1 : Int) ≥ (0 : Int)))
 (some (.inr (.inr v36)))
 (some (.inl (IntKind.i64.wrap (k + (1 : Int))))))
 | .inr v43 => (cond (!decide (v43 ≥ (0 : Int)))
 (some (.inr (.inr v36)))
 (some (.inl (IntKind.i64.wrap (k + (1 : Int)))))))
 (some (.inl (IntKind.i64.wrap (k + (1 : Int))))))
 (some (.inr (.inl ())))) :
    (iter step 0 = some (.inl ()) ∧ ∀ v ∈ L, inP O (toP v) → v ∈ T) ∨ ∃ v ∈ L, inP O (toP v) ∧ v ∉ T ∧ iter step 0 = some (.inr v) := by
  have D := iter_find (step := step) L.length (fun k => (k : Int)) (fun k => if inP O (toP (L.getD k [])) ∧ L.getD k [] ∉ T then some (.inr (L.getD k [])) else none) (.inl ()) (fun k hk => by
    have hg : L[k]? = some L[k] := List.getElem?_eq_getElem hk
    have hgd : L.getD k [] = L[k] := by rw [List.getD_eq_getElem?_getD, hg]; rfl
    obtain ⟨q, eq, hq⟩ := hL _ (List.getElem_mem hk)
    rw [hstep, show decide ((k : Int) < (L.length : Int)) = true from by simp; omega, cond_true, idx_some hg, hgd]
    simp only [Option.bind_some]
    obtain ⟨pv, p1, _, p3⟩ := place_eq (by decide) hO hO2 hq
    rw [eq, p1]
    simp only [Option.bind_some]
    rw [p3, toP_em, wrap_small (by omega) (by omega)]
    by_cases hin : inP O q
    · rw [decide_eq_true hin, cond_true]
      rcases idxf (v := em q) hT hT2 with ⟨f1, f2⟩ | ⟨j, f1, f2⟩
      · rw [f1, if_pos ⟨hin, f2⟩]; rfl
      · rw [f1, if_neg (fun h => h.2 f2)]
        simp only [Option.bind_some]
        rw [show decide ((j : Int) ≥ 0) = true from by simp]; rfl
    · rw [decide_eq_false hin, if_neg (fun h => hin h.1)]; rfl) (by
    rw [hstep]
    simp)
  rcases D with ⟨d1, d2⟩ | ⟨k, r, d1, d2, d3⟩
  · refine .inl ⟨d1, fun v hv hin => ?_⟩
    obtain ⟨k, hk, e⟩ := List.mem_iff_getElem.1 hv
    have := d2 k hk
    have hgd : L.getD k [] = v := by rw [List.getD_eq_getElem?_getD, List.getElem?_eq_getElem hk, e]; rfl
    rw [hgd] at this
    split at this
    · cases this
    · rename_i hno
      exact Classical.byContradiction fun h => hno ⟨hin, h⟩
  · split at d2
    · rename_i h
      cases d2
      have hg : L.getD k [] ∈ L := by
        rw [List.getD_eq_getElem?_getD, List.getElem?_eq_getElem d1]; exact List.getElem_mem d1
      exact .inr ⟨_, hg, h.1, h.2, d3⟩
    · cases d2
theorem firstPoint_eq {A B C : Pt} (hB : ∀ q ∈ [A, B, C], Bd 50 q) : ∃ r, i_firstPoint [em A, em B, em C] = some r ∧ (r.isEmpty = true ↔ ∀ v ∈ latt (box [A, B, C]) [[]], inP (ori A B C) (toP v) → v ∈ [em A, em B, em C]) := by
  have hL := latt_box hB (by simp)
  have hl := latt_box_len hB (by simp)
  have hcp : i_copyInts (em A) = some (em A) := copyInts_eq (by simp [em, lim_eq])
  have e3 := fp3 (P := [A, B, C]) (by simp)
  have e4 := lattice_box hB (by simp)
  have et := turn_em (m := 50) (by decide) (hB A (by simp)) (hB B (by simp)) (hB C (by simp))
  have hT2 : ∀ w ∈ [em A, em B, em C], w.length ≤ 1000 := fun w hw => by
    simp only [List.mem_cons, List.not_mem_nil, or_false] at hw
    rcases hw with rfl | rfl | rfl <;> simp [em]
  have hne : ∀ v ∈ latt (box [A, B, C]) [[]], nneD v = some () ∧ v.isEmpty = false := fun v hv => by
    obtain ⟨q, rfl, _⟩ := hL v hv
    exact ⟨rfl, rfl⟩
  unfold i_firstPoint
  simp only [show idx [em A, em B, em C] 0 = some (em A) from rfl, show idx [em A, em B, em C] 1 = some (em B) from rfl, show idx [em A, em B, em C] 2 = some (em C) from rfl, Option.bind_some, hcp]
  rw [show iter (i_firstPoint_s3 [em A, em B, em C]) (em A, (em A, 0)) = _ from e3]
  simp only [Option.bind_some, et, e4]
  by_cases hn : tn A B C < 0
  · rw [decide_eq_true hn, cond_true]
    have eo : ori A B C = [A, C, B] := by unfold ori; rw [if_pos hn]
    rw [eo]
    have hO : ∀ q ∈ [A, C, B], Bd 50 q := fun q hq => hB q (by rw [← ori_mem, eo]; exact hq)
    rcases look (step := i_firstPoint_s15 [em A, em B, em C] (em A) (em C) (em B) (latt (box [A, B, C]) [[]])) (T := [em A, em B, em C]) (O := [A, C, B]) (by simp) hT2 hO (by simp) hL hl (fun k => rfl) with ⟨h1, h2⟩ | ⟨v, h1, h2, h3, h4⟩
    · rw [h1]
      exact ⟨[], rfl, fun _ => h2, fun _ => rfl⟩
    · rw [h4]
      simp only [Option.bind_some, (hne v h1).1]
      refine ⟨v, rfl, fun h => ?_, fun h => absurd (h v h1 h2) h3⟩
      rw [(hne v h1).2] at h; cases h
  · rw [decide_eq_false hn, cond_false]
    have eo : ori A B C = [A, B, C] := by unfold ori; rw [if_neg hn]
    rw [eo]
    rcases look (step := i_firstPoint_s15b43 [em A, em B, em C] (latt (box [A, B, C]) [[]])) (T := [em A, em B, em C]) (O := [A, B, C]) (by simp) hT2 hB (by simp) hL hl (fun k => rfl) with ⟨h1, h2⟩ | ⟨v, h1, h2, h3, h4⟩
    · rw [h1]
      exact ⟨[], rfl, fun _ => h2, fun _ => rfl⟩
    · rw [h4]
      simp only [Option.bind_some, (hne v h1).1]
      refine ⟨v, rfl, fun h => ?_, fun h => absurd (h v h1 h2) h3⟩
      rw [(hne v h1).2] at h; cases h
/-- Both tests of empty triangles. -/
theorem emptyTriangle_eq {p : List (List Int)} (hp : FitLL p) : ∃ r, s_IsEmptyTriangle p = some r ∧ i_IsEmptyTriangle p = some r := by
  unfold s_IsEmptyTriangle i_IsEmptyTriangle
  by_cases h3 : p.length = 3
  · rw [show ((p.length : Int) != 3) = false from by simp; omega, cond_false, cond_false, l7Flat_eq hp.lim hp.eachLim]
    simp only [Option.bind_some]
    have A := iter_all (step := i_IsEmptyTriangle_s4 p) p (isPt 50) (fun k x hx => by
      have hk := len_lt hx
      unfold i_IsEmptyTriangle_s4
      rw [show decide ((k : Int) < (p.length : Int)) = true from by simp; omega, cond_true, idx_some hx]
      simp only [Option.bind_some]
      rw [isPoint_eq (hp.eachLim x (List.mem_of_getElem? hx)) (by decide) (by decide), wrap_small (by omega) (by omega)]
      simp only [Option.bind_some]
      cases isPt 50 x <;> rfl) (by
      unfold i_IsEmptyTriangle_s4
      simp)
    rw [A]
    cases h2 : p.all (isPt 50) with
    | false => exact ⟨_, rfl, rfl⟩
    | true =>
      obtain ⟨P, rfl, hB⟩ := pts_of h2
      rw [List.length_map] at h3
      match P, h3, hB with
      | [A, B, C], _, hB =>
        have et := turn_em (m := 50) (by decide) (hB A (by simp)) (hB B (by simp)) (hB C (by simp))
        have et' := l7Turn_em (m := 50) (by decide) (hB A (by simp)) (hB B (by simp)) (hB C (by simp))
        have ea : s_l20Area [em A, em B, em C] = some (tn A B C) := by
          unfold s_l20Area
          simp only [show idx [em A, em B, em C] 0 = some (em A) from rfl, show idx [em A, em B, em C] 1 = some (em B) from rfl, show idx [em A, em B, em C] 2 = some (em C) from rfl, Option.bind_some, et']
        rw [if_pos rfl]
        simp only [List.map_cons, List.map_nil, Bool.not_true, cond_false, ea, Option.bind_some, show idx [em A, em B, em C] 0 = some (em A) from rfl, show idx [em A, em B, em C] 1 = some (em B) from rfl, show idx [em A, em B, em C] 2 = some (em C) from rfl, et]
        by_cases hn : tn A B C = 0
        · simp [hn]
        · rw [show (tn A B C == 0) = false from beq_eq_false_iff_ne.2 hn, show (tn A B C != 0) = true from by simp [hn], cond_true, cond_false]
          obtain ⟨v, b, o1, o2⟩ := l20Other_eq hB hn
          obtain ⟨r, f1, f2⟩ := firstPoint_eq hB
          rw [o1, f1]
          refine ⟨!b, rfl, ?_⟩
          simp only [Option.bind_some]
          congr 1
          cases hb : b with
          | true =>
            obtain ⟨v, k1, k2, k3⟩ := o2.1 hb
            cases hr : r.isEmpty with
            | true => exact absurd (f2.1 hr v k1 k2) k3
            | false => rfl
          | false =>
            show r.isEmpty = true
            rw [f2]
            intro v k1 k2
            exact Classical.byContradiction fun h => by
              have := o2.2 ⟨v, k1, k2, h⟩
              rw [hb] at this; cases this
  · rw [show ((p.length : Int) != 3) = true from by simp; omega]
    exact ⟨_, rfl, rfl⟩
end Go.Proofs.Ytcpdhjklcongoaa
