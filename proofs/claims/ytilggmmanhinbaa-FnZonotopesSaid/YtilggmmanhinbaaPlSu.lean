/-
  Plain: sums of polygons: supports add up, mixed areas, mirrored ones. No condition.
-/
import Derived.Test.YtilggmmanhinbaaPlVx
import Derived.Test.YtilggmmanhinbaaPlAr
import Derived.Test.YtilggmmanhinbaaPlMi
namespace Go.Proofs.Ytilggmmanhinbaa
open Go Go.Proofs.Ytilggmmanhinbaa.Eng
set_option linter.unusedVariables false
set_option linter.unusedSimpArgs false
open Hull (Pt Pol tn lx at_ at_some at_of at_mem Asc ng)
/-! Hulls of lists. -/
theorem map_em_toP (L : List Pt) : (L.map em).map toP = L := map_toP L
theorem sorted_same {L M : List Pt} (hm : ∀ q, q ∈ L ↔ q ∈ M) : Hull.sorted L = Hull.sorted M := by
  obtain ⟨h1, h2⟩ := Hull.sorted_spec L
  obtain ⟨k1, k2⟩ := Hull.sorted_spec M
  exact Hull.asc_unique _ _ h1 k1 fun y => by rw [h2, k2, hm]
theorem sup_hullL {L : List Pt} (h3 : 3 ≤ (Hull.hull (Hull.sorted L)).length) (a : Pt) : (∀ s ∈ L, dt a s ≤ sup (Hull.hull (Hull.sorted L)) a) ∧ ∃ q ∈ L, q ∈ Hull.hull (Hull.sorted L) ∧ sup (Hull.hull (Hull.sorted L)) a = dt a q := by
  obtain ⟨h1, h2⟩ := Hull.sorted_spec L
  obtain ⟨k1, q, k2, k3, k4⟩ := sup_hull h1 h3 a
  exact ⟨fun s hs => k1 s ((h2 s).2 hs), q, (h2 q).1 k2, k3, k4⟩
theorem dt_add (a x y : Pt) : dt a (addP x y) = dt a x + dt a y := by unfold dt addP; grind
/-! Mixed areas are positive. -/
theorem sumN_nonneg {f : Nat → Int} : ∀ (n : Nat), (∀ k, k < n → 0 ≤ f k) → 0 ≤ sumN n f
  | 0, _ => Int.le_refl _
  | n + 1, h => by
    have := sumN_nonneg n fun k hk => h k (by omega)
    have := h n (by omega)
    unfold sumN
    omega
theorem sumN_le_mem {f : Nat → Int} : ∀ (n : Nat), (∀ k, k < n → 0 ≤ f k) → ∀ j, j < n → f j ≤ sumN n f
  | 0, _, j, hj => by omega
  | n + 1, h, j, hj => by
    have h1 := sumN_nonneg n fun k hk => h k (by omega)
    have h2 := h n (by omega)
    unfold sumN
    rcases Nat.lt_or_ge j n with hl | hl
    · have := sumN_le_mem n (fun k hk => h k (by omega)) j hl
      omega
    · have : j = n := by omega
      subst this
      omega
/-! Mirrored twice. -/
theorem hull_ng_mem (P : List Pt) (y : Pt) : y ∈ Hull.hull (Hull.sorted (P.map ng)) ↔ y ∈ (Hull.hull (Hull.sorted P)).map ng := by
  obtain ⟨h1, h2⟩ := Hull.sorted_spec P
  obtain ⟨k1, k2⟩ := Hull.sorted_spec (P.map ng)
  have e : Hull.sorted (P.map ng) = ((Hull.sorted P).map ng).reverse := by
    refine Hull.asc_unique _ _ k1 (Hull.asc_rev.2 (Hull.dsc_ng.2 h1)) fun y => ?_
    rw [k2, List.mem_reverse, List.mem_map, List.mem_map]
    constructor
    · rintro ⟨q, hq, rfl⟩; exact ⟨q, (h2 q).2 hq, rfl⟩
    · rintro ⟨q, hq, rfl⟩; exact ⟨q, (h2 q).1 hq, rfl⟩
  rw [e]
  unfold Hull.hull
  rw [List.reverse_reverse, ← List.map_reverse, Hull.chain_ng, Hull.chain_ng, ← List.map_reverse, ← List.map_reverse, ← List.map_dropLast, ← List.map_dropLast, List.map_append]
  rw [List.mem_append, List.mem_append, Or.comm]
theorem mirror_back {P : List Pt} (hp : Pol P) (hB : ∀ q ∈ P, Bd 50 q) (h12 : P.length ≤ 12) : mirS (P.map em) = ((Hull.hull (Hull.sorted (P.map ng))).map em, true) ∧ mirS ((Hull.hull (Hull.sorted (P.map ng))).map em) = (P.map em, true) := by
  have h3 := hp.len
  have hP : isPoly (P.map em) = true := (isPoly_iff hB).2 ⟨h12, hp⟩
  have one : ∀ (L : List Pt), (∀ q ∈ L, Bd 50 q) → L.length ≤ 12 → 3 ≤ (Hull.hull (Hull.sorted L)).length → (Hull.hull (Hull.sorted L)).length ≤ 12 → hullS (L.map em) = ((Hull.hull (Hull.sorted L)).map em, true) := fun L hL h1 h2 h4 => by
    unfold hullS
    rw [if_pos ⟨by simp; omega, all_pts hL⟩]
    simp only [map_em_toP]
    have h5 : 3 ≤ (Hull.sorted L).length := by
      obtain ⟨s1, s2⟩ := Hull.sorted_spec L
      rcases Nat.lt_or_ge (Hull.sorted L).length 3 with h | h
      · exfalso
        have hpol := Hull.pol_hull s1 h2
        have i0 := hull_sub (at_mem (P := Hull.hull (Hull.sorted L)) (k := 0) (by omega))
        have i1 := hull_sub (at_mem (P := Hull.hull (Hull.sorted L)) (k := 1) (by omega))
        have i2 := hull_sub (at_mem (P := Hull.hull (Hull.sorted L)) (k := 2) (by omega))
        have n01 : at_ (Hull.hull (Hull.sorted L)) 0 ≠ at_ (Hull.hull (Hull.sorted L)) 1 := fun he => by have := pol_inj hpol (by omega) (by omega) he; omega
        have n02 : at_ (Hull.hull (Hull.sorted L)) 0 ≠ at_ (Hull.hull (Hull.sorted L)) 2 := fun he => by have := pol_inj hpol (by omega) (by omega) he; omega
        have n12 : at_ (Hull.hull (Hull.sorted L)) 1 ≠ at_ (Hull.hull (Hull.sorted L)) 2 := fun he => by have := pol_inj hpol (by omega) (by omega) he; omega
        generalize Hull.sorted L = S at *
        match S, h with
        | [], _ => simp at i0
        | [x], _ =>
          simp only [List.mem_singleton] at i0 i1
          exact n01 (by rw [i0, i1])
        | [x, y], _ =>
          simp only [List.mem_cons, List.not_mem_nil, or_false] at i0 i1 i2
          rcases i0 with i0 | i0 <;> rcases i1 with i1 | i1 <;> rcases i2 with i2 | i2
          · exact n01 (by rw [i0, i1])
          · exact n01 (by rw [i0, i1])
          · exact n02 (by rw [i0, i2])
          · exact n12 (by rw [i1, i2])
          · exact n12 (by rw [i1, i2])
          · exact n02 (by rw [i0, i2])
          · exact n01 (by rw [i0, i1])
          · exact n01 (by rw [i0, i1])
      · exact h
    rw [if_pos ⟨h5, h2, h4⟩]
  have hh := ((Hull.pol_iff P).1 hp).2.2
  have hbn : ∀ q ∈ P.map ng, Bd 50 q := fun q hq => by
    obtain ⟨x, hx, rfl⟩ := List.mem_map.1 hq
    have := hB x hx
    unfold Bd ng at *
    omega
  have hlen : (Hull.hull (Hull.sorted (P.map ng))).length = P.length := by rw [hull_ng_len, hh]
  have m1 : mirS (P.map em) = ((Hull.hull (Hull.sorted (P.map ng))).map em, true) := by
    unfold mirS
    rw [if_pos hP, map_em_toP]
    exact one _ hbn (by simp; omega) (by omega) (by omega)
  refine ⟨m1, ?_⟩
  have hQ : isPoly ((Hull.hull (Hull.sorted (P.map ng))).map em) = true := by
    refine (isPoly_iff fun q hq => hbn q (((Hull.sorted_spec _).2 q).1 (hull_sub hq))).2 ⟨by omega, Hull.pol_hull (Hull.sorted_spec _).1 (by omega)⟩
  unfold mirS
  rw [if_pos hQ, map_em_toP]
  have hset : ∀ q, q ∈ (Hull.hull (Hull.sorted (P.map ng))).map ng ↔ q ∈ P := fun q => by
    rw [List.mem_map]
    constructor
    · rintro ⟨x, hx, rfl⟩
      rw [hull_ng_mem, hh] at hx
      obtain ⟨z, hz, rfl⟩ := List.mem_map.1 hx
      rw [Hull.ng_ng]; exact hz
    · intro hq
      exact ⟨ng q, by rw [hull_ng_mem, hh]; exact List.mem_map_of_mem hq, Hull.ng_ng q⟩
  have hs2 : Hull.sorted ((Hull.hull (Hull.sorted (P.map ng))).map ng) = Hull.sorted P := sorted_same hset
  have := one ((Hull.hull (Hull.sorted (P.map ng))).map ng) (fun q hq => hB q ((hset q).1 hq)) (by simp; omega) (by rw [hs2, hh]; omega) (by rw [hs2, hh]; omega)
  rw [this, hs2, hh]
end Go.Proofs.Ytilggmmanhinbaa
