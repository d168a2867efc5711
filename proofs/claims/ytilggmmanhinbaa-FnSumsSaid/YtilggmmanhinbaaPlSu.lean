/-
  Plain: sums of polygons: supports add up, mixed areas, mirrored ones. No condition.
-/
import Derived.Test.YtilggmmanhinbaaPlVx
import Derived.Test.YtilggmmanhinbaaPlAr
import Derived.Test.YtilggmmanhinbaaPlMi
namespace Go.Proofs.Ytilggmmanhinbaa
open Go Go.Proofs.Ytilggmmanhinbaa.Eng
set_option linter.unusedVariables false
set_option linter.unusedSimpArgs false
open Hull (Pt Pol tn lx at_ at_some at_of at_mem Asc ng)
/-! Hulls of lists. -/
theorem map_em_toP (L : List Pt) : (L.map em).map toP = L := map_toP L
theorem hullS_true {L : List Pt} (h : (hullS (L.map em)).2 = true) : hullS (L.map em) = ((Hull.hull (Hull.sorted L)).map em, true) ∧ Pol (Hull.hull (Hull.sorted L)) ∧ 3 ≤ (Hull.hull (Hull.sorted L)).length ∧ (Hull.hull (Hull.sorted L)).length ≤ 12 ∧
    (∀ q ∈ Hull.hull (Hull.sorted L), Bd 50 q) ∧ ∀ q ∈ L, Bd 50 q := by
  unfold hullS at h ⊢
  split at h
  · rename_i h1
    rw [if_pos h1]
    simp only [map_em_toP] at h ⊢
    split at h
    · rename_i h2
      rw [if_pos h2]
      have hB : ∀ q ∈ L, Bd 50 q := fun q hq => by
        have := List.all_eq_true.1 h1.2 _ (List.mem_map_of_mem (f := em) hq)
        have := (isPt_em this).2
        rwa [toP_em] at this
      refine ⟨rfl, Hull.pol_hull (Hull.sorted_spec L).1 h2.2.1, h2.2.1, h2.2.2, fun q hq => ?_, hB⟩
      exact hB q (((Hull.sorted_spec L).2 q).1 (hull_sub hq))
    · cases h
  · cases h
theorem sorted_same {L M : List Pt} (hm : ∀ q, q ∈ L ↔ q ∈ M) : Hull.sorted L = Hull.sorted M := by
  obtain ⟨h1, h2⟩ := Hull.sorted_spec L
  obtain ⟨k1, k2⟩ := Hull.sorted_spec M
  exact Hull.asc_unique _ _ h1 k1 fun y => by rw [h2, k2, hm]
theorem hullS_same {L M : List Pt} (hl : L.length = M.length) (hm : ∀ q, q ∈ L ↔ q ∈ M) : hullS (L.map em) = hullS (M.map em) := by
  have ha : (L.map em).all (isPt 50) = (M.map em).all (isPt 50) := by
    rw [Bool.eq_iff_iff, List.all_eq_true, List.all_eq_true]
    constructor
    · intro h v hv
      obtain ⟨q, hq, rfl⟩ := List.mem_map.1 hv
      exact h _ (List.mem_map_of_mem ((hm q).2 hq))
    · intro h v hv
      obtain ⟨q, hq, rfl⟩ := List.mem_map.1 hv
      exact h _ (List.mem_map_of_mem ((hm q).1 hq))
  unfold hullS
  simp only [map_em_toP, List.length_map, hl, ha, sorted_same hm]
theorem sup_hullL {L : List Pt} (h3 : 3 ≤ (Hull.hull (Hull.sorted L)).length) (a : Pt) : (∀ s ∈ L, dt a s ≤ sup (Hull.hull (Hull.sorted L)) a) ∧ ∃ q ∈ L, q ∈ Hull.hull (Hull.sorted L) ∧ sup (Hull.hull (Hull.sorted L)) a = dt a q := by
  obtain ⟨h1, h2⟩ := Hull.sorted_spec L
  obtain ⟨k1, q, k2, k3, k4⟩ := sup_hull h1 h3 a
  exact ⟨fun s hs => k1 s ((h2 s).2 hs), q, (h2 q).1 k2, k3, k4⟩
/-! Sums. -/
theorem mem_sums {P Q : List Pt} {z : Pt} : z ∈ sumsP P Q ↔ ∃ a ∈ P, ∃ b ∈ Q, z = addP a b := by
  unfold sumsP
  rw [List.mem_flatMap]
  constructor
  · rintro ⟨a, ha, h⟩
    obtain ⟨b, hb, rfl⟩ := List.mem_map.1 h
    exact ⟨a, ha, b, hb, rfl⟩
  · rintro ⟨a, ha, b, hb, rfl⟩
    exact ⟨a, ha, List.mem_map.2 ⟨b, hb, rfl⟩⟩
theorem sums_comm (P Q : List Pt) (z : Pt) : z ∈ sumsP P Q ↔ z ∈ sumsP Q P := by
  rw [mem_sums, mem_sums]
  have e : ∀ a b : Pt, addP a b = addP b a := fun a b => by unfold addP; rw [Int.add_comm a.1, Int.add_comm a.2]
  constructor
  · rintro ⟨a, ha, b, hb, h⟩; exact ⟨b, hb, a, ha, by rw [h, e]⟩
  · rintro ⟨a, ha, b, hb, h⟩; exact ⟨b, hb, a, ha, by rw [h, e]⟩
theorem sumP_comm (p q : List (List Int)) : sumP p q = sumP q p := by
  unfold sumP
  rw [Bool.and_comm]
  split
  · exact hullS_same (by rw [sums_len, sums_len, Nat.mul_comm]) (sums_comm _ _)
  · rfl
theorem dt_add (a x y : Pt) : dt a (addP x y) = dt a x + dt a y := by unfold dt addP; grind
theorem sup_sums {P Q : List Pt} (hP : 0 < P.length) (hQ : 0 < Q.length) (h3 : 3 ≤ (Hull.hull (Hull.sorted (sumsP P Q))).length) : sup (Hull.hull (Hull.sorted (sumsP P Q))) = fun a => sup P a + sup Q a := by
  funext a
  obtain ⟨h1, z, h2, _, h4⟩ := sup_hullL h3 a
  obtain ⟨x, hx, y, hy, rfl⟩ := mem_sums.1 h2
  obtain ⟨p1, u, p2, p3⟩ := sup_spec hP a
  obtain ⟨q1, v, q2, q3⟩ := sup_spec hQ a
  have := h1 _ (mem_sums.2 ⟨u, p2, v, q2, rfl⟩)
  rw [dt_add] at this h4
  have := p1 x hx
  have := q1 y hy
  omega
/-! Mixed areas are positive. -/
theorem sumN_nonneg {f : Nat → Int} : ∀ (n : Nat), (∀ k, k < n → 0 ≤ f k) → 0 ≤ sumN n f
  | 0, _ => Int.le_refl _
  | n + 1, h => by
    have := sumN_nonneg n fun k hk => h k (by omega)
    have := h n (by omega)
    unfold sumN
    omega
theorem sumN_le_mem {f : Nat → Int} : ∀ (n : Nat), (∀ k, k < n → 0 ≤ f k) → ∀ j, j < n → f j ≤ sumN n f
  | 0, _, j, hj => by omega
  | n + 1, h, j, hj => by
    have h1 := sumN_nonneg n fun k hk => h k (by omega)
    have h2 := h n (by omega)
    unfold sumN
    rcases Nat.lt_or_ge j n with hl | hl
    · have := sumN_le_mem n (fun k hk => h k (by omega)) j hl
      omega
    · have : j = n := by omega
      subst this
      omega
theorem mixed_pos {P Q : List Pt} (hp : Pol P) (hq : Pol Q) (bP : ∀ q ∈ P, Bd 400 q) (bQ : ∀ q ∈ Q, Bd 400 q) : 1 ≤ XX (sup P) (sup Q) := by
  have p3 := hp.len
  have q3 := hq.len
  obtain ⟨nr, hn, hs⟩ := side_sum hq bQ
  rw [hs]
  -- seen from one corner
  have zero : ∀ v : Pt, sumN Q.length (fun k => dt (nr k) v * gcdP (at_ Q k) (nx Q k)) = 0 := fun v => by
    rw [sumN_congr (g := fun k => (v.1 * (nx Q k).2 - v.2 * (nx Q k).1) - (v.1 * (at_ Q k).2 - v.2 * (at_ Q k).1)) _ fun k hk => ?_]
    · exact sum_cyc (by omega) fun q => v.1 * q.2 - v.2 * q.1
    · obtain ⟨_, _, _, e1, e2⟩ := hn k hk
      have : (v.1 * (nx Q k).2 - v.2 * (nx Q k).1) - (v.1 * (at_ Q k).2 - v.2 * (at_ Q k).1) = v.1 * ((nx Q k).2 - (at_ Q k).2) - v.2 * ((nx Q k).1 - (at_ Q k).1) := by grind
      rw [this, e1, e2]
      unfold dt
      grind
  have hv := at_mem (P := P) (k := 0) (by omega)
  have hw := at_mem (P := P) (k := 1) (by omega)
  have hvw : at_ P 0 ≠ at_ P 1 := fun he => by
    have := pol_inj hp (by omega) (by omega) he
    omega
  generalize at_ P 0 = v at hv hvw
  generalize at_ P 1 = w at hw hvw
  have g0 : ∀ k, k < Q.length → 0 < gcdP (at_ Q k) (nx Q k) := fun k hk => gcd_pos_side hq hk
  have part : ∀ k, k < Q.length → 0 ≤ (sup P (nr k) - dt (nr k) v) * gcdP (at_ Q k) (nx Q k) := fun k hk => Int.mul_nonneg (by have := (sup_spec (P := P) (by omega) (nr k)).1 v hv; omega) (Int.le_of_lt (g0 k hk))
  have tot : sumN Q.length (fun k => sup P (nr k) * gcdP (at_ Q k) (nx Q k)) = sumN Q.length fun k => (sup P (nr k) - dt (nr k) v) * gcdP (at_ Q k) (nx Q k) := by
    rw [sumN_congr (g := fun k => sup P (nr k) * gcdP (at_ Q k) (nx Q k) - dt (nr k) v * gcdP (at_ Q k) (nx Q k)) _ fun k _ => Int.sub_mul _ _ _, sumN_sub, zero v]
    omega
  rw [tot]
  -- one side sees more
  by_cases hx : ∃ k, k < Q.length ∧ dt (nr k) v < sup P (nr k)
  · obtain ⟨k, hk, hl⟩ := hx
    have h1 := sumN_le_mem Q.length part k hk
    have := Int.mul_pos (show 0 < sup P (nr k) - dt (nr k) v by omega) (g0 k hk)
    omega
  · exfalso
    have all : ∀ k, k < Q.length → dt (nr k) v = sup P (nr k) := fun k hk => by
      have := (sup_spec (P := P) (by omega) (nr k)).1 v hv
      rcases Int.lt_or_le (dt (nr k) v) (sup P (nr k)) with h | h
      · exact absurd ⟨k, hk, h⟩ hx
      · omega
    have nn : ∀ k, k < Q.length → 0 ≤ (dt (nr k) v - dt (nr k) w) * gcdP (at_ Q k) (nx Q k) := fun k hk => Int.mul_nonneg (by have := (sup_spec (P := P) (by omega) (nr k)).1 w hw; rw [all k hk]; omega) (Int.le_of_lt (g0 k hk))
    have z0 : sumN Q.length (fun k => (dt (nr k) v - dt (nr k) w) * gcdP (at_ Q k) (nx Q k)) = 0 := by
      rw [sumN_congr (g := fun k => dt (nr k) v * gcdP (at_ Q k) (nx Q k) - dt (nr k) w * gcdP (at_ Q k) (nx Q k)) _ fun k _ => Int.sub_mul _ _ _, sumN_sub, zero v, zero w]
      omega
    have eq : ∀ k, k < Q.length → dt (nr k) v = dt (nr k) w := fun k hk => by
      have h1 := sumN_le_mem Q.length nn k hk
      rw [z0] at h1
      have h2 := nn k hk
      have h3 : (dt (nr k) v - dt (nr k) w) * gcdP (at_ Q k) (nx Q k) = 0 := by omega
      have := g0 k hk
      rcases Int.mul_eq_zero.1 h3 with h | h <;> omega
    -- two sides that turn
    have hc := (Hull.pol_chk q3).1 hq 0 (by omega)
    unfold Hull.chk at hc
    simp only [Bool.and_eq_true, decide_eq_true_eq] at hc
    have ht := hc.1
    have m1 : (0 + 1) % Q.length = 1 := Nat.mod_eq_of_lt (by omega)
    have m2 : at_ Q ((0 + 2) % Q.length) = nx Q 1 := rfl
    have m3 : nx Q 0 = at_ Q 1 := by unfold nx; rw [m1]
    rw [m1, m2] at ht
    obtain ⟨_, _, _, a3, a4⟩ := hn 0 (by omega)
    obtain ⟨_, _, _, b3, b4⟩ := hn 1 (by omega)
    rw [m3] at a3 a4
    have f1 := eq 0 (by omega)
    have f2 := eq 1 (by omega)
    generalize nr 0 = d at *
    generalize nr 1 = e at *
    have det : tn (at_ Q 0) (at_ Q 1) (nx Q 1) = gcdP (at_ Q 0) (at_ Q 1) * gcdP (at_ Q 1) (nx Q 1) * (d.1 * e.2 - d.2 * e.1) := by
      have : tn (at_ Q 0) (at_ Q 1) (nx Q 1) = ((at_ Q 1).1 - (at_ Q 0).1) * ((nx Q 1).2 - (at_ Q 1).2) - ((at_ Q 1).2 - (at_ Q 0).2) * ((nx Q 1).1 - (at_ Q 1).1) := by unfold tn; grind
      rw [this, a3, a4, b3, b4]
      grind
    have dne : d.1 * e.2 - d.2 * e.1 ≠ 0 := fun h0 => by
      rw [det, h0, Int.mul_zero] at ht
      omega
    have z1 : (d.1 * e.2 - d.2 * e.1) * (v.1 - w.1) = 0 := by
      have : (d.1 * e.2 - d.2 * e.1) * (v.1 - w.1) = e.2 * (dt d v - dt d w) - d.2 * (dt e v - dt e w) := by unfold dt; grind
      rw [this, f1, f2]; omega
    have z2 : (d.1 * e.2 - d.2 * e.1) * (v.2 - w.2) = 0 := by
      have : (d.1 * e.2 - d.2 * e.1) * (v.2 - w.2) = d.1 * (dt e v - dt e w) - e.1 * (dt d v - dt d w) := by unfold dt; grind
      rw [this, f1, f2]; omega
    rcases Int.mul_eq_zero.1 z1 with z | z
    · exact dne z
    rcases Int.mul_eq_zero.1 z2 with y | y
    · exact dne y
    exact hvw (Prod.ext (by omega) (by omega))
/-! Mirrored twice. -/
theorem hull_ng_mem (P : List Pt) (y : Pt) : y ∈ Hull.hull (Hull.sorted (P.map ng)) ↔ y ∈ (Hull.hull (Hull.sorted P)).map ng := by
  obtain ⟨h1, h2⟩ := Hull.sorted_spec P
  obtain ⟨k1, k2⟩ := Hull.sorted_spec (P.map ng)
  have e : Hull.sorted (P.map ng) = ((Hull.sorted P).map ng).reverse := by
    refine Hull.asc_unique _ _ k1 (Hull.asc_rev.2 (Hull.dsc_ng.2 h1)) fun y => ?_
    rw [k2, List.mem_reverse, List.mem_map, List.mem_map]
    constructor
    · rintro ⟨q, hq, rfl⟩; exact ⟨q, (h2 q).2 hq, rfl⟩
    · rintro ⟨q, hq, rfl⟩; exact ⟨q, (h2 q).1 hq, rfl⟩
  rw [e]
  unfold Hull.hull
  rw [List.reverse_reverse, ← List.map_reverse, Hull.chain_ng, Hull.chain_ng, ← List.map_reverse, ← List.map_reverse, ← List.map_dropLast, ← List.map_dropLast, List.map_append]
  rw [List.mem_append, List.mem_append, Or.comm]
theorem mirror_back {P : List Pt} (hp : Pol P) (hB : ∀ q ∈ P, Bd 50 q) (h12 : P.length ≤ 12) : mirS (P.map em) = ((Hull.hull (Hull.sorted (P.map ng))).map em, true) ∧ mirS ((Hull.hull (Hull.sorted (P.map ng))).map em) = (P.map em, true) := by
  have h3 := hp.len
  have hP : isPoly (P.map em) = true := (isPoly_iff hB).2 ⟨h12, hp⟩
  have one : ∀ (L : List Pt), (∀ q ∈ L, Bd 50 q) → L.length ≤ 12 → 3 ≤ (Hull.hull (Hull.sorted L)).length → (Hull.hull (Hull.sorted L)).length ≤ 12 → hullS (L.map em) = ((Hull.hull (Hull.sorted L)).map em, true) := fun L hL h1 h2 h4 => by
    unfold hullS
    rw [if_pos ⟨by simp; omega, all_pts hL⟩]
    simp only [map_em_toP]
    have h5 : 3 ≤ (Hull.sorted L).length := by
      obtain ⟨s1, s2⟩ := Hull.sorted_spec L
      rcases Nat.lt_or_ge (Hull.sorted L).length 3 with h | h
      · exfalso
        have hpol := Hull.pol_hull s1 h2
        have i0 := hull_sub (at_mem (P := Hull.hull (Hull.sorted L)) (k := 0) (by omega))
        have i1 := hull_sub (at_mem (P := Hull.hull (Hull.sorted L)) (k := 1) (by omega))
        have i2 := hull_sub (at_mem (P := Hull.hull (Hull.sorted L)) (k := 2) (by omega))
        have n01 : at_ (Hull.hull (Hull.sorted L)) 0 ≠ at_ (Hull.hull (Hull.sorted L)) 1 := fun he => by have := pol_inj hpol (by omega) (by omega) he; omega
        have n02 : at_ (Hull.hull (Hull.sorted L)) 0 ≠ at_ (Hull.hull (Hull.sorted L)) 2 := fun he => by have := pol_inj hpol (by omega) (by omega) he; omega
        have n12 : at_ (Hull.hull (Hull.sorted L)) 1 ≠ at_ (Hull.hull (Hull.sorted L)) 2 := fun he => by have := pol_inj hpol (by omega) (by omega) he; omega
        generalize Hull.sorted L = S at *
        match S, h with
        | [], _ => simp at i0
        | [x], _ =>
          simp only [List.mem_singleton] at i0 i1
          exact n01 (by rw [i0, i1])
        | [x, y], _ =>
          simp only [List.mem_cons, List.not_mem_nil, or_false] at i0 i1 i2
          rcases i0 with i0 | i0 <;> rcases i1 with i1 | i1 <;> rcases i2 with i2 | i2
          · exact n01 (by rw [i0, i1])
          · exact n01 (by rw [i0, i1])
          · exact n02 (by rw [i0, i2])
          · exact n12 (by rw [i1, i2])
          · exact n12 (by rw [i1, i2])
          · exact n02 (by rw [i0, i2])
          · exact n01 (by rw [i0, i1])
          · exact n01 (by rw [i0, i1])
      · exact h
    rw [if_pos ⟨h5, h2, h4⟩]
  have hh := ((Hull.pol_iff P).1 hp).2.2
  have hbn : ∀ q ∈ P.map ng, Bd 50 q := fun q hq => by
    obtain ⟨x, hx, rfl⟩ := List.mem_map.1 hq
    have := hB x hx
    unfold Bd ng at *
    omega
  have hlen : (Hull.hull (Hull.sorted (P.map ng))).length = P.length := by rw [hull_ng_len, hh]
  have m1 : mirS (P.map em) = ((Hull.hull (Hull.sorted (P.map ng))).map em, true) := by
    unfold mirS
    rw [if_pos hP, map_em_toP]
    exact one _ hbn (by simp; omega) (by omega) (by omega)
  refine ⟨m1, ?_⟩
  have hQ : isPoly ((Hull.hull (Hull.sorted (P.map ng))).map em) = true := by
    refine (isPoly_iff fun q hq => hbn q (((Hull.sorted_spec _).2 q).1 (hull_sub hq))).2 ⟨by omega, Hull.pol_hull (Hull.sorted_spec _).1 (by omega)⟩
  unfold mirS
  rw [if_pos hQ, map_em_toP]
  have hset : ∀ q, q ∈ (Hull.hull (Hull.sorted (P.map ng))).map ng ↔ q ∈ P := fun q => by
    rw [List.mem_map]
    constructor
    · rintro ⟨x, hx, rfl⟩
      rw [hull_ng_mem, hh] at hx
      obtain ⟨z, hz, rfl⟩ := List.mem_map.1 hx
      rw [Hull.ng_ng]; exact hz
    · intro hq
      exact ⟨ng q, by rw [hull_ng_mem, hh]; exact List.mem_map_of_mem hq, Hull.ng_ng q⟩
  have hs2 : Hull.sorted ((Hull.hull (Hull.sorted (P.map ng))).map ng) = Hull.sorted P := sorted_same hset
  have := one ((Hull.hull (Hull.sorted (P.map ng))).map ng) (fun q hq => hB q ((hset q).1 hq)) (by simp; omega) (by rw [hs2, hh]; omega) (by rw [hs2, hh]; omega)
  rw [this, hs2, hh]
end Go.Proofs.Ytilggmmanhinbaa
