/-
  Plain: sums of polygons: supports add up, mixed areas, mirrored ones. No condition.
-/
import Derived.Test.YtgbkkmidloeciaaGreatPlVx
import Derived.Test.YtgbkkmidloeciaaGreatPlAr
import Derived.Test.YtgbkkmidloeciaaGreatPlMi
namespace Go.Proofs.YtgbkkmidloeciaaGreat
open Go Go.Proofs.YtgbkkmidloeciaaGreat.Eng
set_option linter.unusedVariables false
set_option linter.unusedSimpArgs false
open Hull (Pt Pol tn lx at_ at_some at_of at_mem Asc ng)
/-! Hulls of lists. -/
theorem map_em_toP (L : List Pt) : (L.map em).map toP = L := map_toP L
theorem hullS_true {L : List Pt} (h : (hullS (L.map em)).2 = true) : hullS (L.map em) = ((Hull.hull (Hull.sorted L)).map em, true) ∧ Pol (Hull.hull (Hull.sorted L)) ∧ 3 ≤ (Hull.hull (Hull.sorted L)).length ∧ (Hull.hull (Hull.sorted L)).length ≤ 12 ∧
    (∀ q ∈ Hull.hull (Hull.sorted L), Bd 50 q) ∧ ∀ q ∈ L, Bd 50 q := by
  unfold hullS at h ⊢
  split at h
  · rename_i h1
    rw [if_pos h1]
    simp only [map_em_toP] at h ⊢
    split at h
    · rename_i h2
      rw [if_pos h2]
      have hB : ∀ q ∈ L, Bd 50 q := fun q hq => by
        have := List.all_eq_true.1 h1.2 _ (List.mem_map_of_mem (f := em) hq)
        have := (isPt_em this).2
        rwa [toP_em] at this
      refine ⟨rfl, Hull.pol_hull (Hull.sorted_spec L).1 h2.2.1, h2.2.1, h2.2.2, fun q hq => ?_, hB⟩
      exact hB q (((Hull.sorted_spec L).2 q).1 (hull_sub hq))
    · cases h
  · cases h
theorem sorted_same {L M : List Pt} (hm : ∀ q, q ∈ L ↔ q ∈ M) : Hull.sorted L = Hull.sorted M := by
  obtain ⟨h1, h2⟩ := Hull.sorted_spec L
  obtain ⟨k1, k2⟩ := Hull.sorted_spec M
  exact Hull.asc_unique _ _ h1 k1 fun y => by rw [h2, k2, hm]
theorem hullS_same {L M : List Pt} (hl : L.length = M.length) (hm : ∀ q, q ∈ L ↔ q ∈ M) : hullS (L.map em) = hullS (M.map em) := by
  have ha : (L.map em).all (isPt 50) = (M.map em).all (isPt 50) := by
    rw [Bool.eq_iff_iff, List.all_eq_true, List.all_eq_true]
    constructor
    · intro h v hv
      obtain ⟨q, hq, rfl⟩ := List.mem_map.1 hv
      exact h _ (List.mem_map_of_mem ((hm q).2 hq))
    · intro h v hv
      obtain ⟨q, hq, rfl⟩ := List.mem_map.1 hv
      exact h _ (List.mem_map_of_mem ((hm q).1 hq))
  unfold hullS
  simp only [map_em_toP, List.length_map, hl, ha, sorted_same hm]
end Go.Proofs.YtgbkkmidloeciaaGreat
