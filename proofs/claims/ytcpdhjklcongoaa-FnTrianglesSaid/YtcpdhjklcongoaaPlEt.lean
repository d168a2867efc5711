/-
  Polygons filled with empty triangles. Plain, no condition.
-/
import Derived.Test.YtcpdhjklcongoaaPlO
import Derived.Test.YtcpdhjklcongoaaPlFi
import Derived.Test.YtcpdhjklcongoaaPlL
import Derived.Test.YtcpdhjklcongoaaPlMs
namespace Go.Proofs.Ytcpdhjklcongoaa
open Go Go.Proofs.Ytcpdhjklcongoaa.Eng
open Hull (Pt tn lx at_ at_some at_mem)
set_option linter.unusedVariables false
set_option linter.unusedSimpArgs false
/-! The first other point of a triangle. -/
def fst3 (A B C : Pt) : Option (List Int) := (latt (box [A, B, C]) [[]]).find? fun v => decide (inP (ori A B C) (toP v)) && decide (v ∉ [em A, em B, em C])
theorem look1 {step : Int → Option (Int ⊕ (Unit ⊕ List Int))} {T : List (List Int)} {O : List Pt} {L : List (List Int)} (hT : T.length ≤ 1000) (hT2 : ∀ w ∈ T, w.length ≤ 1000)
    (hO : ∀ q ∈ O, Bd 50 q) (hO2 : O.length ≤ 1000) (hL : ∀ v ∈ L, ∃ q : Pt, v = em q ∧ Bd 50 q) (hl : L.length ≤ 40000)
    (hstep : ∀ k, step k = cond (decide (k < (L.length : Int)))
 ((idx L k).bind fun v36 => (i_placeOf (O.map em) v36).bind fun v37 => cond (decide (v37 ≥ (0 : Int)))
 ((iter (i_firstPoint_s80_2 T v36) (0 : Int)).bind fun v41 => match v41 with
 | .inl v42 => (cond (!decide ((-1 : Int) ≥ (0 : Int)))
 (some (.inr (.inr v36)))
 (some (.inl (IntKind.i64.wrap (k + (1 : Int))))))
 | .inr v43 => (cond (!decide (v43 ≥ (0 : Int)))
 (some (.inr (.inr v36)))
 (some (.inl (IntKind.i64.wrap (k + (1 : Int)))))))
 (some (.inl (IntKind.i64.wrap (k + (1 : Int))))))
 (some (.inr (.inl ())))) :
    iter step 0 = some (fnG () (L.find? fun v => decide (inP O (toP v)) && decide (v ∉ T))) := by
  have D := iter_first (step := step) L.length (fun k => (k : Int)) (fun k => if decide (inP O (toP (L.getD k []))) && decide (L.getD k [] ∉ T) then some (id (L.getD k [])) else none) () (fun k hk => by
    have hg : L[k]? = some L[k] := List.getElem?_eq_getElem hk
    have hgd : L.getD k [] = L[k] := by rw [List.getD_eq_getElem?_getD, hg]; rfl
    obtain ⟨q, eq, hq⟩ := hL _ (List.getElem_mem hk)
    rw [hstep, show decide ((k : Int) < (L.length : Int)) = true from by simp; omega, cond_true, idx_some hg, hgd]
    simp only [Option.bind_some]
    obtain ⟨pv, p1, _, p3⟩ := place_eq (by decide) hO hO2 hq
    rw [eq, p1]
    simp only [Option.bind_some]
    rw [p3, toP_em, wrap_small (by omega) (by omega)]
    by_cases hin : inP O q
    · rw [decide_eq_true hin, cond_true]
      rcases idxf (v := em q) hT hT2 with ⟨f1, f2⟩ | ⟨j, f1, f2⟩
      · rw [f1, decide_eq_true f2]; rfl
      · rw [f1, show decide (em q ∉ T) = false from decide_eq_false (fun h => h f2)]
        simp only [Option.bind_some]
        rw [show decide ((j : Int) ≥ 0) = true from by simp]; rfl
    · rw [decide_eq_false hin]; rfl) (by
    rw [hstep]
    simp)
  rw [range_first [] (fun v => if decide (inP O (toP v)) && decide (v ∉ T) then some (id v) else none) L, first_if] at D
  rw [show (0 : Int) = ((0 : Nat) : Int) from rfl, D]
  congr 2
  cases L.find? fun v => decide (inP O (toP v)) && decide (v ∉ T) <;> rfl
theorem fst3_mem {A B C : Pt} (hB : ∀ q ∈ [A, B, C], Bd 50 q) {v : List Int} (h : fst3 A B C = some v) : ∃ q, v = em q ∧ Bd 50 q ∧ inP (ori A B C) q ∧ q ≠ A ∧ q ≠ B ∧ q ≠ C := by
  have h1 := List.find?_some h
  have h2 := List.mem_of_find?_eq_some h
  obtain ⟨q, rfl, hq⟩ := latt_box hB (by simp) v h2
  simp only [Bool.and_eq_true, decide_eq_true_eq, toP_em, List.mem_cons, List.not_mem_nil, or_false, not_or] at h1
  exact ⟨q, rfl, hq, of_decide_eq_true h1.1, fun e => h1.2.1 (by rw [e]), fun e => h1.2.2.1 (by rw [e]), fun e => h1.2.2.2 (by rw [e])⟩
theorem firstPoint_val {A B C : Pt} (hB : ∀ q ∈ [A, B, C], Bd 50 q) : i_firstPoint [em A, em B, em C] = some ((fst3 A B C).getD []) := by
  have hL := latt_box hB (by simp)
  have hl := latt_box_len hB (by simp)
  have hcp : i_copyInts (em A) = some (em A) := copyInts_eq (by simp [em, lim_eq])
  have e3 := fp3 (P := [A, B, C]) (by simp)
  have e4 := lattice_box hB (by simp)
  have et := turn_em (m := 50) (by decide) (hB A (by simp)) (hB B (by simp)) (hB C (by simp))
  have hT2 : ∀ w ∈ [em A, em B, em C], w.length ≤ 1000 := fun w hw => by
    simp only [List.mem_cons, List.not_mem_nil, or_false] at hw
    rcases hw with rfl | rfl | rfl <;> simp [em]
  have hfin : (match (fnG () (fst3 A B C) : Unit ⊕ List Int) with
      | .inl _ => some ([] : List Int)
      | .inr v => (nneD v).bind fun _ => some v) = some ((fst3 A B C).getD []) := by
    cases hf : fst3 A B C with
    | none => rfl
    | some v =>
      obtain ⟨q, rfl, _⟩ := fst3_mem hB hf
      rfl
  unfold i_firstPoint
  simp only [show idx [em A, em B, em C] 0 = some (em A) from rfl, show idx [em A, em B, em C] 1 = some (em B) from rfl, show idx [em A, em B, em C] 2 = some (em C) from rfl, Option.bind_some, hcp]
  rw [show iter (i_firstPoint_s3 [em A, em B, em C]) (em A, (em A, 0)) = _ from e3]
  simp only [Option.bind_some, et, e4]
  by_cases hn : tn A B C < 0
  · rw [decide_eq_true hn, cond_true]
    have eo : ori A B C = [A, C, B] := by unfold ori; rw [if_pos hn]
    have hO : ∀ q ∈ [A, C, B], Bd 50 q := fun q hq => hB q (by rw [← ori_mem, eo]; exact hq)
    have := look1 (step := i_firstPoint_s15 [em A, em B, em C] (em A) (em C) (em B) (latt (box [A, B, C]) [[]])) (T := [em A, em B, em C]) (O := [A, C, B]) (by simp) hT2 hO (by simp) hL hl (fun k => rfl)
    rw [this, ← eo]
    exact hfin
  · rw [decide_eq_false hn, cond_false]
    have eo : ori A B C = [A, B, C] := by unfold ori; rw [if_neg hn]
    have := look1 (step := i_firstPoint_s15b43 [em A, em B, em C] (latt (box [A, B, C]) [[]])) (T := [em A, em B, em C]) (O := [A, B, C]) (by simp) hT2 hB (by simp) hL hl (fun k => rfl)
    rw [this]
    have e2 : ((latt (box [A, B, C]) [[]]).find? fun v => decide (inP [A, B, C] (toP v)) && decide (v ∉ [em A, em B, em C])) = fst3 A B C := by unfold fst3; rw [eo]
    rw [e2]
    exact hfin
theorem l20Other_val {A B C : Pt} (hB : ∀ q ∈ [A, B, C], Bd 50 q) (hn : tn A B C ≠ 0) : s_l20Other [em A, em B, em C] = some ((fst3 A B C).getD [], (fst3 A B C).isSome) := by
  obtain ⟨X, Y, Z, hp, hm, hi'⟩ := tri_norm hn
  have hBX : ∀ q ∈ [X, Y, Z], Bd 50 q := fun q hq => hB q ((hm q).1 hq)
  have hxx : ∀ q ∈ [X, Y, Z], (at_ [X, Y, Z] 0).1 ≤ q.1 := fun q hq => by
    rcases List.mem_cons.1 hq with rfl | hq
    · exact Int.le_refl _
    · have := hp.min X [Y, Z] rfl q hq
      unfold lx at this
      show X.1 ≤ q.1
      omega
  have e1 : s_l2Put ([] : List (List Int)) (em A) = some (([A] : List Pt).map em) := l2Put_eq (S := []) (by simp [Hull.Asc]) (by simp) A
  have a1 : Hull.Asc [A] := by simp [Hull.Asc]
  have e2 := l2Put_eq (S := [A]) a1 (by simp) B
  have a2 : Hull.Asc (Hull.ins B [A]) := Hull.asc_ins a1
  have l2 : (Hull.ins B [A]).length ≤ 2 := by have := asc_len_fold [B] [A]; simpa using this
  have e3 := l2Put_eq (S := Hull.ins B [A]) a2 (by omega) C
  have es : Hull.ins C (Hull.ins B [A]) = Hull.sorted [A, B, C] := rfl
  rw [es] at e3
  have hs := (Hull.sorted_spec [A, B, C]).2
  have e4 := l7Hull_eq 50 (by decide) (S := Hull.sorted [A, B, C]) (by have := sorted_len [A, B, C]; simp at this; omega) (by intro h; have := (hs A).2 (by simp); rw [h] at this; simp at this) (fun y hy => hB y ((hs y).1 hy))
  rw [hull_tri hp hm] at e4
  have e5 := l7Points_eq hBX (by simp) (by simp) hxx
  have ebox : box [X, Y, Z] = box [A, B, C] := box_same (by simp) (by simp) hm
  have hpt : ∀ v ∈ ptsP [X, Y, Z], v.length = 2 := fun v hv => by
    unfold ptsP at hv
    rw [ebox] at hv
    obtain ⟨q, rfl, _⟩ := latt_box hB (by simp) v (List.mem_filter.1 hv).1
    rfl
  have hlen : (ptsP [X, Y, Z]).length ≤ 40000 := Nat.le_trans (List.length_filter_le _ _) (latt_box_len hBX (by simp))
  have hff : (ptsP [X, Y, Z]).find? (fun v => decide (v ∉ [em A, em B, em C])) = fst3 A B C := by
    unfold ptsP fst3
    rw [List.find?_filter, ebox]
    congr 1
    funext v
    have : inP [X, Y, Z] (toP v) ↔ inP (ori A B C) (toP v) := hi' _
    by_cases h : inP (ori A B C) (toP v)
    · simp [h, this.2 h]
    · simp [h, mt this.1 h]
  unfold s_l20Other
  simp only [show idx [em A, em B, em C] 0 = some (em A) from rfl, show idx [em A, em B, em C] 1 = some (em B) from rfl, show idx [em A, em B, em C] 2 = some (em C) from rfl, Option.bind_some, e1, e2, e3, e4, e5]
  have D := iter_first (step := s_l20Other_s5 [em A, em B, em C] (ptsP [X, Y, Z])) (ptsP [X, Y, Z]).length (fun k => (k : Int)) (fun k => if decide ((ptsP [X, Y, Z]).getD k [] ∉ [em A, em B, em C]) then some (((ptsP [X, Y, Z]).getD k []), true) else none) () (fun k hk => by
    have hg : (ptsP [X, Y, Z])[k]? = some (ptsP [X, Y, Z])[k] := List.getElem?_eq_getElem hk
    have hgd : (ptsP [X, Y, Z]).getD k [] = (ptsP [X, Y, Z])[k] := by rw [List.getD_eq_getElem?_getD, hg]; rfl
    have h2 := hpt _ (List.getElem_mem hk)
    unfold s_l20Other_s5
    simp only [show idx [em A, em B, em C] 0 = some (em A) from rfl, show idx [em A, em B, em C] 1 = some (em B) from rfl, show idx [em A, em B, em C] 2 = some (em C) from rfl, Option.bind_some, idx_some hg, hgd]
    rw [l2Same_eq (by rw [h2]; simp [lim_eq]), l2Same_eq (by rw [h2]; simp [lim_eq]), l2Same_eq (by rw [h2]; simp [lim_eq]), show decide ((k : Int) < ((ptsP [X, Y, Z]).length : Int)) = true from by simp; omega, cond_true, wrap_small (by omega) (by omega)]
    simp only [Option.bind_some]
    generalize (ptsP [X, Y, Z])[k] = v
    by_cases h1 : v = em A
    · simp [h1, fnS]
    · by_cases h2 : v = em B
      · simp [h2, fnS]
      · by_cases h3 : v = em C
        · simp [h3, fnS]
        · have b1 : (v == em A) = false := beq_eq_false_iff_ne.2 h1
          have b2 : (v == em B) = false := beq_eq_false_iff_ne.2 h2
          have b3 : (v == em C) = false := beq_eq_false_iff_ne.2 h3
          rw [b1, b2, b3, if_pos (by simp [h1, h2, h3])]
          rfl) (by
    unfold s_l20Other_s5
    simp)
  rw [range_first [] (fun v => if decide (v ∉ [em A, em B, em C]) then some ((fun v => (v, true)) v) else none) (ptsP [X, Y, Z]), first_if, hff] at D
  rw [show (0 : Int) = ((0 : Nat) : Int) from rfl, D]
  cases fst3 A B C <;> rfl
end Go.Proofs.Ytcpdhjklcongoaa
