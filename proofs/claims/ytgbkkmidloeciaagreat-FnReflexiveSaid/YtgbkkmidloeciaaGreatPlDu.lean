/-
  Dual polygons and the number twelve. Plain, no condition.
-/
import Derived.Test.YtgbkkmidloeciaaGreatPlDt
import Derived.Test.YtgbkkmidloeciaaGreatPlSm
import Derived.Test.YtgbkkmidloeciaaGreatPlHv
namespace Go.Proofs.YtgbkkmidloeciaaGreat
open Go Go.Proofs.YtgbkkmidloeciaaGreat.Eng Hull
set_option linter.unusedVariables false
set_option linter.unusedSimpArgs false
theorem place_iff {m : Int} (hm : m ≤ 1000000) {P : List Pt} (hB : ∀ q ∈ P, Bd m q) (hl : P.length ≤ 1000) {q : Pt} (hq : Bd m q) : ∃ v, i_placeOf (P.map em) (em q) = some v ∧ s_l7Place (P.map em) (em q) = some v ∧ (v = 1 ↔ ∀ k, k < P.length → 0 < sd P q k) := by
  have stp : ∀ k, k < P.length → i_placeOf_s3 (P.map em) (em q) (sideSt P q k, (k : Int)) = some (fnd (sideSt P q (k + 1), ((k + 1 : Nat) : Int)) (if sd P q k < 0 then some (.inr (-1)) else none : Option (Int ⊕ Int))) ∧
      s_l7Place_s3 (P.map em) (em q) (sideSt P q k, (k : Int)) = some (fnd (sideSt P q (k + 1), ((k + 1 : Nat) : Int)) (if sd P q k < 0 then some (.inr (-1)) else none : Option (Int ⊕ Int))) := fun k hk => by
    have hj : (k + 1) % P.length < P.length := Nat.mod_lt _ (by omega)
    have ht := turn_em hm (hB _ (at_mem hk)) (hB _ (at_mem hj)) hq
    have ht' := l7Turn_em hm (hB _ (at_mem hk)) (hB _ (at_mem hj)) hq
    have hr : remI .i64 (IntKind.i64.wrap ((k : Int) + 1)) ((P.map em).length : Int) = some (((k + 1) % P.length : Nat) : Int) := by
      rw [wrap_small (by omega) (by omega), List.length_map]
      exact remP (j := k + 1) (by omega)
    have hd : decide ((k : Int) < ((P.map em).length : Int)) = true := by simp; omega
    unfold i_placeOf_s3 s_l7Place_s3
    simp only [hd, cond_true, idxP hk, Option.bind_some, hr, idxP hj, ht, ht', sideSt_succ]
    rw [wrap_small (by omega) (by omega)]
    show cond (decide (sd P q k < 0)) _ _ = _ ∧ cond (decide (sd P q k < 0)) _ _ = _
    by_cases h : sd P q k < 0
    · rw [if_pos h, decide_eq_true h]; exact ⟨rfl, rfl⟩
    · rw [if_neg h, decide_eq_false h]
      by_cases h0 : sd P q k = 0
      · rw [if_pos h0]
        have : (tn (at_ P k) (at_ P ((k + 1) % P.length)) q == 0) = true := by simpa [sd] using h0
        rw [this]
        exact ⟨rfl, rfl⟩
      · rw [if_neg h0]
        have : (tn (at_ P k) (at_ P ((k + 1) % P.length)) q == 0) = false := by simpa [sd] using h0
        rw [this]
        exact ⟨rfl, rfl⟩
  have e0 : ((1, 0) : Int × Int) = (sideSt P q 0, ((0 : Nat) : Int)) := rfl
  have A := iter_find (step := i_placeOf_s3 (P.map em) (em q)) P.length (fun k => (sideSt P q k, (k : Int))) (fun k => if sd P q k < 0 then some (.inr (-1)) else none) (.inl (sideSt P q P.length)) (fun k hk => (stp k hk).1) (by
    unfold i_placeOf_s3; simp)
  have B := iter_find (step := s_l7Place_s3 (P.map em) (em q)) P.length (fun k => (sideSt P q k, (k : Int))) (fun k => if sd P q k < 0 then some (.inr (-1)) else none) (.inl (sideSt P q P.length)) (fun k hk => (stp k hk).2) (by
    unfold s_l7Place_s3; simp)
  simp only [← e0] at A B
  unfold i_placeOf s_l7Place
  rcases A with ⟨a1, a2⟩ | ⟨k, r, a1, a2, a3⟩
  · have hin : inP P q := fun k hk => by
      have := a2 k hk
      split at this
      · cases this
      · omega
    rcases B with ⟨b1, b2⟩ | ⟨k, r, b1, b2, b3⟩
    · rw [a1, b1]
      refine ⟨_, rfl, rfl, fun h1 k hk => ?_, fun hall => ?_⟩
      rotate_left
      · unfold sideSt
        rw [if_neg]
        intro ha
        obtain ⟨k, hk, hz⟩ := List.any_eq_true.1 ha
        have := hall k (List.mem_range.1 hk)
        have hz : sd P q k = 0 := by simpa using hz
        omega
      have h2 := hin k hk
      by_cases h3 : sd P q k = 0
      · exfalso
        unfold sideSt at h1
        rw [if_pos (List.any_eq_true.2 ⟨k, List.mem_range.2 hk, by simp [h3]⟩)] at h1
        exact absurd h1 (by decide)
      · omega
    · have := a2 k b1; rw [this] at b2; cases b2
  · have hno : ¬ inP P q := fun h => by
      have := h k a1
      rw [if_neg (by omega)] at a2; cases a2
    have hr : r = .inr (-1) := by
      split at a2
      · exact (Option.some.inj a2).symm
      · cases a2
    rcases B with ⟨b1, b2⟩ | ⟨k', r', b1, b2, b3⟩
    · have := b2 k a1; rw [this] at a2; cases a2
    · have hr' : r' = .inr (-1) := by
        split at b2
        · exact (Option.some.inj b2).symm
        · cases b2
      subst hr hr'
      rw [a3, b3]
      exact ⟨-1, rfl, rfl, fun h => absurd h (by decide), fun hall => absurd (fun k hk => Int.le_of_lt (hall k hk)) hno⟩
theorem place_one {m : Int} (hm : m ≤ 1000000) {P : List Pt} (hB : ∀ q ∈ P, Bd m q) (hl : P.length ≤ 1000) {q : Pt} (hq : Bd m q) : ∃ v, i_placeOf (P.map em) (em q) = some v ∧ s_l7Place (P.map em) (em q) = some v ∧ (v = 1 → ∀ k, k < P.length → 0 < sd P q k) := by
  obtain ⟨v, h1, h2, h3⟩ := place_iff hm hB hl hq
  exact ⟨v, h1, h2, h3.1⟩
/-! Areas, points on sides, points within. -/
theorem cS_bd {P : List Pt} (hB : ∀ q ∈ P, Bd 50 q) {k : Nat} (hk : k < P.length) : -5000 ≤ cS P k ∧ cS P k ≤ 5000 :=
  crs_bd (hB _ (at_mem hk)) (hB _ (at_mem (Nat.mod_lt _ (by omega))))
theorem gcd_bd {x y : Int} {m : Nat} (hx : x.natAbs ≤ m) (hy : y.natAbs ≤ m) : Int.gcd x y ≤ m := by
  by_cases h : x = 0
  · subst h; rw [Int.gcd_zero_left]; exact hy
  · exact Nat.le_trans (Nat.gcd_le_left _ (by omega)) hx
theorem gS_bd {P : List Pt} (hB : ∀ q ∈ P, Bd 50 q) {k : Nat} (hk : k < P.length) : -5000 ≤ gS P k ∧ gS P k ≤ 5000 := by
  have h1 := hB _ (at_mem hk)
  have h2 := hB _ (at_mem (Nat.mod_lt (k + 1) (show 0 < P.length by omega)))
  unfold gS Bd at *
  have := gcd_bd (x := (at_ P ((k + 1) % P.length)).1 - (at_ P k).1) (y := (at_ P ((k + 1) % P.length)).2 - (at_ P k).2) (m := 100) (by omega) (by omega)
  omega
theorem area_val {P : List Pt} (hB : ∀ q ∈ P, Bd 50 q) (h12 : P.length ≤ 12) : s_l7Area (P.map em) = some (sumF (cS P) P.length) := by
  have := iter_up (step := s_l7Area_s3 (P.map em)) P.length (fun k => (sumF (cS P) k, (k : Int))) (sumF (cS P) P.length) (fun k hk => by
    have hj : (k + 1) % P.length < P.length := Nat.mod_lt _ (by omega)
    have hr : remI .i64 (IntKind.i64.wrap ((k : Int) + 1)) ((P.map em).length : Int) = some (((k + 1) % P.length : Nat) : Int) := by
      rw [wrap_small (by omega) (by omega), List.length_map]
      exact remP (j := k + 1) (by omega)
    have hc := cS_bd hB hk
    have hs := sumF_bd (cS P) 5000 k fun j hj => cS_bd hB (by omega)
    unfold s_l7Area_s3
    simp only
    rw [show decide ((k : Int) < ((P.map em).length : Int)) = true from by simp; omega, cond_true, idxP hk, hr]
    simp only [Option.bind_some]
    rw [idxP hj]
    simp only [Option.bind_some]
    rw [l7Cross_em (hB _ (at_mem hk)) (hB _ (at_mem hj)), wrap_small (x := (k : Int) + 1) (by omega) (by omega)]
    simp only [Option.bind_some]
    show some (Sum.inl (IntKind.i64.wrap (sumF (cS P) k + cS P k), (k : Int) + 1)) = _
    rw [wrap_small (show -4611686018427387904 ≤ sumF (cS P) k + cS P k by omega) (show sumF (cS P) k + cS P k ≤ 4611686018427387904 by omega)]
    rfl) (by
    unfold s_l7Area_s3
    simp)
  have e0 : ((0, 0) : Int × Int) = (sumF (cS P) 0, ((0 : Nat) : Int)) := rfl
  unfold s_l7Area
  rw [e0, this]
  rfl
theorem side_em {P : List Pt} (hB : ∀ q ∈ P, Bd 50 q) {k : Nat} (hk : k < P.length) (h12 : P.length ≤ 12) :
    s_l7Side (P.map em) (k : Int) = some (gS P k) ∧ i_gcdAll (em (sbp (at_ P ((k + 1) % P.length)) (at_ P k))) = some (gS P k) := by
  have hj : (k + 1) % P.length < P.length := Nat.mod_lt _ (by omega)
  have hr : remI .i64 (IntKind.i64.wrap ((k : Int) + 1)) ((P.map em).length : Int) = some (((k + 1) % P.length : Nat) : Int) := by
    rw [wrap_small (by omega) (by omega), List.length_map]
    exact remP (j := k + 1) (by omega)
  have m := sbp_em (hB _ (at_mem hj)) (hB _ (at_mem hk))
  have hd := m.2.2
  have hsm : ∀ x ∈ em (sbp (at_ P ((k + 1) % P.length)) (at_ P k)), Sm x := fun x hx => by
    unfold Bd at hd
    simp only [em, List.mem_cons, List.not_mem_nil, or_false] at hx
    unfold Sm
    rcases hx with rfl | rfl <;> omega
  have hl : (em (sbp (at_ P ((k + 1) % P.length)) (at_ P k))).length ≤ lim := by simp [em, lim_eq]
  have hg : gcdL (em (sbp (at_ P ((k + 1) % P.length)) (at_ P k))) = gS P k := gcdL_two _ _
  refine ⟨?_, by rw [gcdAll_eq hl hsm, hg]⟩
  unfold s_l7Side
  rw [hr]
  simp only [Option.bind_some]
  rw [idxP hj, idxP hk]
  simp only [Option.bind_some, m.2.1]
  rw [l2All_eq hl hsm, hg]
  rfl
theorem boundary_eq {P : List Pt} (hB : ∀ q ∈ P, Bd 50 q) (h12 : P.length ≤ 12) (hP : isPoly (P.map em) = true) :
    s_BoundaryCount (P.map em) = some (sumF (gS P) P.length) ∧ i_BoundaryCount (P.map em) = some (sumF (gS P) P.length) := by
  have hlim : (P.map em).length ≤ lim := by rw [List.length_map, lim_eq]; omega
  have hel : ∀ v ∈ P.map em, v.length ≤ lim := fun v hv => by
    obtain ⟨q, _, rfl⟩ := List.mem_map.1 hv
    simp [em, lim_eq]
  have A := iter_up (step := s_BoundaryCount_s5 (P.map em)) P.length (fun k => (sumF (gS P) k, (k : Int))) (sumF (gS P) P.length) (fun k hk => by
    have hc := gS_bd hB hk
    have hs := sumF_bd (gS P) 5000 k fun j hj => gS_bd hB (by omega)
    unfold s_BoundaryCount_s5
    simp only
    rw [show decide ((k : Int) < ((P.map em).length : Int)) = true from by simp; omega, cond_true, (side_em hB hk h12).1]
    simp only [Option.bind_some]
    rw [wrap_small (x := (k : Int) + 1) (by omega) (by omega), wrap_small (by omega) (by omega)]
    rfl) (by
    unfold s_BoundaryCount_s5
    simp)
  have B := iter_up (step := i_BoundaryCount_s5 (P.map em)) P.length (fun k => (sumF (gS P) k, (k : Int))) (sumF (gS P) P.length) (fun k hk => by
    have hj : (k + 1) % P.length < P.length := Nat.mod_lt _ (by omega)
    have hr : remI .i64 (IntKind.i64.wrap ((k : Int) + 1)) ((P.map em).length : Int) = some (((k + 1) % P.length : Nat) : Int) := by
      rw [wrap_small (by omega) (by omega), List.length_map]
      exact remP (j := k + 1) (by omega)
    have hc := gS_bd hB hk
    have hs := sumF_bd (gS P) 5000 k fun j hj => gS_bd hB (by omega)
    unfold i_BoundaryCount_s5
    simp only
    rw [show decide ((k : Int) < ((P.map em).length : Int)) = true from by simp; omega, cond_true, idxP hk, hr]
    simp only [Option.bind_some]
    rw [idxP hj]
    simp only [Option.bind_some, (sbp_em (hB _ (at_mem hj)) (hB _ (at_mem hk))).1, (side_em hB hk h12).2]
    rw [wrap_small (x := (k : Int) + 1) (by omega) (by omega), wrap_small (by omega) (by omega)]
    rfl) (by
    unfold i_BoundaryCount_s5
    simp)
  have e0 : ((0, 0) : Int × Int) = (sumF (gS P) 0, ((0 : Nat) : Int)) := rfl
  unfold s_BoundaryCount i_BoundaryCount
  rw [s_IsPolygon_eq hlim hel, i_IsPolygon_eq hlim hel, hP, e0]
  simp only [Option.bind_some, Bool.not_true, cond_false, A, B, and_self]
theorem inner_two {P : List Pt} (hB : ∀ q ∈ P, Bd 50 q) (h12 : P.length ≤ 12) (hP : isPoly (P.map em) = true) :
    s_InnerCount (P.map em) = some ((sumF (cS P) P.length - sumF (gS P) P.length + 2).tdiv 2) ∧ i_InnerCount (P.map em) = some ((sumF (cS P) P.length - sumF (gS P) P.length + 2).tdiv 2) := by
  have hlim : (P.map em).length ≤ lim := by rw [List.length_map, lim_eq]; omega
  have hel : ∀ v ∈ P.map em, v.length ≤ lim := fun v hv => by
    obtain ⟨q, _, rfl⟩ := List.mem_map.1 hv
    simp [em, lim_eq]
  have hs := sumF_bd (cS P) 5000 P.length fun j hj => cS_bd hB hj
  have hg := sumF_bd (gS P) 5000 P.length fun j hj => gS_bd hB hj
  obtain ⟨b1, b2⟩ := boundary_eq hB h12 hP
  unfold s_InnerCount i_InnerCount i_AreaTwice
  rw [s_IsPolygon_eq hlim hel, i_IsPolygon_eq hlim hel, hP]
  simp only [Option.bind_some, Bool.not_true, cond_false, b1, b2, area_same, area_val hB h12]
  rw [wrap_small (x := sumF (cS P) P.length - sumF (gS P) P.length) (by omega) (by omega), wrap_small (x := sumF (cS P) P.length - sumF (gS P) P.length + 2) (by omega) (by omega), quo_some (by omega) (by unfold Sm; omega)]
  exact ⟨rfl, rfl⟩
/-! Reflexive polygons. -/
theorem sd_zero (P : List Pt) (k : Nat) : sd P (0, 0) k = cS P k := by
  unfold sd cS tn
  grind
theorem reflex_eq {p : List (List Int)} (hp : FitLL p) : ∃ b, s_IsReflexive p = some b ∧ i_IsReflexive p = some b ∧ (b = true → ∃ P : List Pt, p = P.map em ∧ (∀ q ∈ P, Bd 50 q) ∧ 3 ≤ P.length ∧ P.length ≤ 12 ∧ Pol P ∧ isPoly p = true ∧ ∀ k, k < P.length → 0 < cS P k ∧ cS P k = gS P k) := by
  unfold s_IsReflexive i_IsReflexive
  rw [s_IsPolygon_eq hp.lim hp.eachLim]
  simp only [Option.bind_some]
  cases h1 : isPoly p with
  | false =>
    have : i_InnerCount p = some (-1) := by
      unfold i_InnerCount
      rw [i_IsPolygon_eq hp.lim hp.eachLim, h1]
      rfl
    rw [this]
    exact ⟨false, rfl, rfl, fun h => by cases h⟩
  | true =>
    obtain ⟨P, rfl, hB, g3, g12, hpol⟩ := poly_of h1
    obtain ⟨c1, c2⟩ := inner_two hB g12 h1
    rw [cond_true, c1, c2]
    simp only [Option.bind_some]
    by_cases hI : (sumF (cS P) P.length - sumF (gS P) P.length + 2).tdiv 2 = 1
    · rw [hI, show ((1 : Int) == 1) = true from rfl, cond_true, cond_true]
      have hz : Bd 50 ((0, 0) : Pt) := by unfold Bd; decide
      obtain ⟨v, v1, v2, v3⟩ := place_one (m := 50) (by omega) hB (by omega) hz
      have e0 : ([(0 : Int), (0 : Int)] : List Int) = em (0, 0) := rfl
      have hv : i_PlaceOf (P.map em) (em (0, 0)) = some v := by
        unfold i_PlaceOf
        rw [i_IsPolygon_eq hp.lim hp.eachLim, h1]
        simp only [Option.bind_some, Bool.not_true, cond_false]
        rw [i_IsVector_eq (by simp [em, lim_eq])]
        simp only [Option.bind_some, show (!vecB (em (0, 0))) = false from rfl, cond_false, show (((em (0, 0)).length : Int) != 2) = false from rfl, v1]
      rw [e0, hv, v2]
      refine ⟨v == 1, rfl, rfl, fun h => ⟨P, rfl, hB, g3, g12, hpol, trivial, ?_⟩⟩
      have hv1 := v3 (by simpa using h)
      have hc : ∀ k, k < P.length → 0 < cS P k := fun k hk => by
        have := hv1 k hk
        rw [sd_zero] at this
        exact this
      exact fun k hk => ⟨hc k hk, reflex_core (by omega) hc hI k hk⟩
    · have : ((sumF (cS P) P.length - sumF (gS P) P.length + 2).tdiv 2 == 1) = false := by simpa using hI
      rw [this]
      exact ⟨false, rfl, rfl, fun h => by cases h⟩
theorem reflex_true {P : List Pt} (hB : ∀ q ∈ P, Bd 50 q) (g3 : 3 ≤ P.length) (g12 : P.length ≤ 12) (hP : isPoly (P.map em) = true) (hh : ∀ k, k < P.length → 0 < cS P k ∧ cS P k = gS P k) : s_IsReflexive (P.map em) = some true ∧ i_IsReflexive (P.map em) = some true := by
  have hlim : (P.map em).length ≤ lim := by rw [List.length_map, lim_eq]; omega
  have hel : ∀ v ∈ P.map em, v.length ≤ lim := fun v hv => by
    obtain ⟨q, _, rfl⟩ := List.mem_map.1 hv
    simp [em, lim_eq]
  obtain ⟨c1, c2⟩ := inner_two hB g12 hP
  have hI : (sumF (cS P) P.length - sumF (gS P) P.length + 2).tdiv 2 = 1 := by
    rw [sumF_congr (cS P) (gS P) P.length fun k hk => (hh k hk).2, Int.sub_self]
    rfl
  rw [hI] at c1 c2
  have hz : Bd 50 ((0, 0) : Pt) := by unfold Bd; decide
  obtain ⟨v, v1, v2, v3⟩ := place_iff (m := 50) (by omega) hB (by omega) hz
  have e0 : ([(0 : Int), (0 : Int)] : List Int) = em (0, 0) := rfl
  have hv : v = 1 := v3.2 fun k hk => by rw [sd_zero]; exact (hh k hk).1
  subst hv
  have hv : i_PlaceOf (P.map em) (em (0, 0)) = some 1 := by
    unfold i_PlaceOf
    rw [i_IsPolygon_eq hlim hel, hP]
    simp only [Option.bind_some, Bool.not_true, cond_false]
    rw [i_IsVector_eq (by simp [em, lim_eq])]
    simp only [Option.bind_some, show (!vecB (em (0, 0))) = false from rfl, cond_false, show (((em (0, 0)).length : Int) != 2) = false from rfl, v1]
  unfold s_IsReflexive i_IsReflexive
  rw [s_IsPolygon_eq hlim hel, hP]
  simp only [Option.bind_some, cond_true, c1, c2, e0, hv, v2, beq_self_eq_true, and_self]
/-! Dual polygons. -/
theorem dual_side {P : List Pt} (hB : ∀ q ∈ P, Bd 50 q) (g3 : 3 ≤ P.length) (hpol : Pol P) {k : Nat} (hk : k < P.length) (hc : 0 < cS P k) (he : cS P k = gS P k) :
    s_l18Dual (em (at_ P k)) (em (at_ P ((k + 1) % P.length))) = some (sideH P k).1 ∧ (sideH P k).2 = 1 := by
  have hj : (k + 1) % P.length < P.length := Nat.mod_lt _ (by omega)
  have h1 := hB _ (at_mem hk)
  have h2 := hB _ (at_mem hj)
  have hx := l7Cross_em h1 h2
  have hgp : cS P k = (Int.gcd (sbp (at_ P ((k + 1) % P.length)) (at_ P k)).1 (sbp (at_ P ((k + 1) % P.length)) (at_ P k)).2 : Nat) := he
  have hcv : cS P k = (at_ P k).1 * (at_ P ((k + 1) % P.length)).2 - (at_ P k).2 * (at_ P ((k + 1) % P.length)).1 := rfl
  unfold sideH s_l18Dual prm
  rw [← hgp]
  rw [← hcv] at hx
  generalize cS P k = c at *
  generalize at_ P k = a at *
  generalize at_ P ((k + 1) % P.length) = b at *
  unfold Bd at h1 h2
  rw [hx]
  simp only [Option.bind_some, (idx_em a).1, (idx_em a).2, (idx_em b).1, (idx_em b).2]
  rw [wrap_small (x := b.2 - a.2) (by omega) (by omega), wrap_small (x := a.1 - b.1) (by omega) (by omega), quo_some hc (by unfold Sm; omega), quo_some hc (by unfold Sm; omega)]
  simp only [Option.bind_some, em, sbp] at hgp ⊢
  have d1 : c ∣ b.1 - a.1 := by rw [hgp]; exact Int.gcd_dvd_left ..
  have d2 : c ∣ b.2 - a.2 := by rw [hgp]; exact Int.gcd_dvd_right ..
  have en : (a.1 - b.1).tdiv c = -((b.1 - a.1).tdiv c) := by rw [← Int.neg_tdiv]; congr 1; omega
  refine ⟨by rw [en], ?_⟩
  obtain ⟨u, hu⟩ := d1
  obtain ⟨v, hv⟩ := d2
  rw [hu, hv, Int.mul_tdiv_cancel_left _ (by omega), Int.mul_tdiv_cancel_left _ (by omega)]
  unfold dt
  simp only
  have e : c * (v * a.1 + -u * a.2) = c * 1 := by
    have e1 : c * (v * a.1 + -u * a.2) = a.1 * (c * v) - a.2 * (c * u) := by grind
    rw [e1, ← hu, ← hv]
    grind
  exact Int.eq_of_mul_eq_mul_left (by omega) e
theorem dual_full {p : List (List Int)} (hp : FitLL p) : ∃ r, s_DualPolygon p = some r ∧ i_DualPolygon p = some r ∧ ((r = ([], false) ∧ i_IsReflexive p = some false) ∨ ∃ P : List Pt, p = P.map em ∧ (∀ q ∈ P, Bd 50 q) ∧ 3 ≤ P.length ∧ P.length ≤ 12 ∧ Pol P ∧ isPoly p = true ∧ (∀ k, k < P.length → 0 < cS P k ∧ cS P k = gS P k) ∧ r = hullS ((List.range P.length).map fun j => (sideH P j).1)) := by
  obtain ⟨b, b1, b2, b3⟩ := reflex_eq hp
  unfold s_DualPolygon i_DualPolygon
  rw [b1, b2]
  simp only [Option.bind_some]
  cases b with
  | false => exact ⟨_, rfl, rfl, .inl ⟨rfl, rfl⟩⟩
  | true =>
    obtain ⟨P, rfl, hB, g3, g12, hpol, h1, hh⟩ := b3 rfl
    have hlen : (P.map em).length = P.length := by simp
    have hm : ∀ j, j % P.length < P.length := fun j => Nat.mod_lt _ (by omega)
    have bd : ∀ {j}, j < P.length → Bd 50 (at_ P j) := fun h => hB _ (at_mem h)
    rw [Bool.not_true, cond_false, cond_false]
    have rs : ∀ k, (List.range (k + 1)).map (fun j => (sideH P j).1) = (List.range k).map (fun j => (sideH P j).1) ++ [(sideH P k).1] := fun k => by
      rw [List.range_succ, List.map_append]; rfl
    have A := iter_up (step := s_DualPolygon_s5 (P.map em)) P.length (fun k => ((List.range k).map (fun j => (sideH P j).1), (k : Int))) ((List.range P.length).map (fun j => (sideH P j).1)) (fun k hk => by
      have hr : remI .i64 (IntKind.i64.wrap ((k : Int) + 1)) ((P.map em).length : Int) = some (((k + 1) % P.length : Nat) : Int) := by
        rw [wrap_small (by omega) (by omega), List.length_map]
        exact remP (j := k + 1) (by omega)
      unfold s_DualPolygon_s5
      simp only
      rw [show decide ((k : Int) < ((P.map em).length : Int)) = true from by simp; omega, cond_true, idxP hk, hr]
      simp only [Option.bind_some]
      rw [idxP (hm _)]
      simp only [Option.bind_some]
      rw [(dual_side hB g3 hpol hk (hh k hk).1 (hh k hk).2).1]
      simp only [Option.bind_some]
      rw [appD_some (by simp [lim_eq]; omega) (by simp [lim_eq]; omega), wrap_small (x := (k : Int) + 1) (by omega) (by omega), rs]
      rfl) (by
      unfold s_DualPolygon_s5
      simp)
    have B := iter_up (step := i_DualPolygon_s5 (P.map em)) P.length (fun k => ((List.range k).map (fun j => (sideH P j).1), (k : Int))) (.inl ((List.range P.length).map (fun j => (sideH P j).1))) (fun k hk => by
      have sp := side_spec hB g3 hpol hk
      have d1 := (dot_em (sp.mono (by decide)) ((bd hk).mono (by decide))).1
      have e1 := (dual_side hB g3 hpol hk (hh k hk).1 (hh k hk).2).2
      have d2 : i_dot (sideH P k).1 (em (at_ P k)) = some (sideH P k).2 := d1
      unfold i_DualPolygon_s5
      simp only
      rw [show decide ((k : Int) < ((P.map em).length : Int)) = true from by simp; omega, cond_true, idxP hk, outward_eq hB g3 g12 hpol hk]
      simp only [Option.bind_some]
      rw [d2, e1]
      simp only [Option.bind_some, bne_self_eq_false, cond_false]
      rw [appD_some (by simp [lim_eq]; omega) (by simp [lim_eq]; omega), wrap_small (x := (k : Int) + 1) (by omega) (by omega), rs]
      rfl) (by
      unfold i_DualPolygon_s5
      simp)
    have e0 : (([], 0) : List (List Int) × Int) = ((List.range 0).map (fun j => (sideH P j).1), ((0 : Nat) : Int)) := rfl
    rw [e0, A, B]
    simp only [Option.bind_some]
    have hl : ((List.range P.length).map (fun j => (sideH P j).1)).length ≤ lim := by simp [lim_eq]; omega
    have hx : ∀ v ∈ (List.range P.length).map (fun j => (sideH P j).1), v.length ≤ lim := fun v hv => by
      obtain ⟨k, _, rfl⟩ := List.mem_map.1 hv
      simp [sideH, em, lim_eq]
    rw [s_HullOf_eq hl hx, i_HullOf_eq hl hx]
    simp only [Option.bind_some]
    exact ⟨_, hullS_cond _, rfl, .inr ⟨P, rfl, hB, g3, g12, hpol, h1, hh, rfl⟩⟩
theorem dual_eq {p : List (List Int)} (hp : FitLL p) : ∃ r, s_DualPolygon p = some r ∧ i_DualPolygon p = some r ∧ ((r = ([], false)) ∨ ∃ q, r = hullS q) ∧ (r.2 = true → isPoly p = true) := by
  obtain ⟨r, h1, h2, h3⟩ := dual_full hp
  refine ⟨r, h1, h2, ?_, fun hr => ?_⟩
  · rcases h3 with ⟨h3, _⟩ | ⟨P, _, _, _, _, _, _, _, h⟩
    · exact .inl h3
    · exact .inr ⟨_, h⟩
  · rcases h3 with ⟨h3, _⟩ | ⟨P, _, _, _, _, _, h, _, _⟩
    · rw [h3] at hr; cases hr
    · exact h
theorem twelve_eq {p : List (List Int)} (hp : FitLL p) : ∃ n, s_TwelveOf p = some n ∧ i_TwelveOf p = some n := by
  obtain ⟨r, h1, h2, h3, h4⟩ := dual_eq hp
  unfold s_TwelveOf i_TwelveOf
  rw [h1, h2]
  simp only [Option.bind_some]
  cases hr : r.2 with
  | false => exact ⟨_, rfl, rfl⟩
  | true =>
    have hq : isPoly r.1 = true := by
      rcases h3 with rfl | ⟨q, rfl⟩
      · cases hr
      · exact hullS_poly hr
    obtain ⟨P, rfl, hB, g3, g12, hpol⟩ := poly_of (h4 hr)
    obtain ⟨Q, eQ, hB', g3', g12', hpol'⟩ := poly_of hq
    obtain ⟨a1, a2⟩ := boundary_eq hB g12 (h4 hr)
    rw [eQ] at hq ⊢
    obtain ⟨c1, c2⟩ := boundary_eq hB' g12' hq
    rw [a1, a2, c1, c2]
    exact ⟨_, rfl, rfl⟩
end Go.Proofs.YtgbkkmidloeciaaGreat
