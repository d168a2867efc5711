/-
  Plain: cones split. No condition.
-/
import Derived.Test.YtmdagdopfgiaiaaPlB
namespace Go.Proofs.Ytmdagdopfgiaiaa
open Go Go.Proofs.Ytmdagdopfgiaiaa.Eng
set_option linter.unusedVariables false
set_option linter.unusedSimpArgs false
/-- A primitive vector with entries up to 30. -/
structure Pv (a b : Int) : Prop where
  a1 : -30 ≤ a
  a2 : a ≤ 30
  b1 : -30 ≤ b
  b2 : b ≤ 30
  g : Int.gcd a b = 1
theorem Pv.ta {a b : Int} (h : Pv a b) : Tn a := by have := h.a1; have := h.a2; unfold Tn; omega
theorem Pv.tb {a b : Int} (h : Pv a b) : Tn b := by have := h.b1; have := h.b2; unfold Tn; omega
/-! Bezout's vector by search. -/
def tries (k n : Int) : List (List Int) := [[k, n], [k, -n], [n, k], [-n, k]]
theorem tries_mem {k n : Int} {t : List Int} (h : t ∈ tries k n) : ∃ x y, t = [x, y] ∧ (x = k ∨ x = n ∨ x = -n) ∧ (y = k ∨ y = n ∨ y = -n) := by
  simp only [tries, List.mem_cons, List.not_mem_nil, or_false] at h
  rcases h with rfl | rfl | rfl | rfl <;> exact ⟨_, _, rfl, by simp, by simp⟩
structure Bz (a b : Int) (w : List Int) : Prop where
  ex : ∃ x y, w = [x, y] ∧ a * y - b * x = 1 ∧ (-30 ≤ x ∧ x ≤ 30) ∧ (-30 ≤ y ∧ y ≤ 30)
theorem bez_in {a b k n : Int} (h : Pv a b) (hn : 0 ≤ n ∧ n ≤ 30) (hk : -n ≤ k ∧ k ≤ n) :
    ∃ y, iter (s_l9Bezout_s8 [a, b] n k) 0 = some y ∧ (match y with
      | .inl () => ∀ t ∈ tries k n, crsL [a, b] t ≠ 1
      | .inr w => Bz a b w) := by
  have := iter_run (step := s_l9Bezout_s8 [a, b] n k) (fun i => ∃ j : Nat, j ≤ 4 ∧ i = (j : Int) ∧ ∀ (m : Nat) (t : List Int), m < j → (tries k n)[m]? = some t → crsL [a, b] t ≠ 1) (fun i => 4 - i.toNat) (fun _ y => match y with
      | .inl () => ∀ t ∈ tries k n, crsL [a, b] t ≠ 1
      | .inr w => Bz a b w) (fun i hi => ?_) (s := 0) ⟨0, by omega, rfl, fun m t hm => by omega⟩
  · exact this
  · obtain ⟨j, hj, rfl, hp⟩ := hi
    have hw : IntKind.i64.wrap (0 - n) = -n := by rw [wrap_id (by omega) (by omega)]; omega
    by_cases h4 : j < 4
    · have hd : decide ((j : Int) < 4) = true := by simp; omega
      have hl : j < (tries k n).length := h4
      have ht : (tries k n)[j]? = some (tries k n)[j] := List.getElem?_eq_getElem hl
      have hmem := List.getElem_mem hl
      obtain ⟨x, y, he, hx, hy⟩ := tries_mem hmem
      have hx30 : -30 ≤ x ∧ x ≤ 30 := by omega
      have hy30 : -30 ≤ y ∧ y ≤ 30 := by omega
      rw [he] at ht
      have hc : s_l7Cross [a, b] [x, y] = some (crs a b x y) := l7Cross_eq h.ta h.tb (by unfold Tn; omega) (by unfold Tn; omega)
      have hidx : idx ([[k, n], [k, -n], [n, k], [-n, k]] : List (List Int)) (j : Int) = some [x, y] := idx_some ht
      by_cases h1 : crs a b x y = 1
      · left
        refine ⟨.inr [x, y], ?_, ⟨x, y, rfl, h1, hx30, hy30⟩⟩
        simp only [s_l9Bezout_s8, hd, cond_true, hw, hidx, Option.bind_some, hc, h1, beq_self_eq_true]
      · right
        have hb : (crs a b x y == 1) = false := by simpa using h1
        refine ⟨((j + 1 : Nat) : Int), ?_, ⟨j + 1, by omega, rfl, fun m t hm htm => ?_⟩, by simp only [Int.toNat_natCast]; omega, fun y hy => hy⟩
        · simp only [s_l9Bezout_s8, hd, cond_true, hw, hidx, Option.bind_some, hc, hb, cond_false]
          rw [wrap_id (by omega) (by omega)]; rfl
        · by_cases hmj : m < j
          · exact hp m t hmj htm
          · have : m = j := by omega
            subst this
            rw [ht] at htm
            obtain rfl := Option.some.inj htm
            exact h1
    · left
      have hj4 : j = 4 := by omega
      subst hj4
      have hd : decide (((4 : Nat) : Int) < 4) = false := by simp
      refine ⟨.inl (), ?_, fun t ht => ?_⟩
      · simp only [s_l9Bezout_s8, hd, cond_false]
      · obtain ⟨m, hm, rfl⟩ := List.mem_iff_getElem.1 ht
        exact hp m _ hm (List.getElem?_eq_getElem hm)
theorem bez_mid {a b n : Int} (h : Pv a b) (hn : 0 ≤ n ∧ n ≤ 30) :
    ∃ y, iter (s_l9Bezout_s4 [a, b] n) (-n) = some y ∧ (match y with
      | .inl () => ∀ k, -n ≤ k → k ≤ n → ∀ t ∈ tries k n, crsL [a, b] t ≠ 1
      | .inr w => Bz a b w) := by
  have := iter_run (step := s_l9Bezout_s4 [a, b] n) (fun k => -n ≤ k ∧ k ≤ n + 1 ∧ ∀ k', -n ≤ k' → k' < k → ∀ t ∈ tries k' n, crsL [a, b] t ≠ 1) (fun k => (n + 1 - k).toNat) (fun _ y => match y with
      | .inl () => ∀ k, -n ≤ k → k ≤ n → ∀ t ∈ tries k n, crsL [a, b] t ≠ 1
      | .inr w => Bz a b w) (fun k hk => ?_) (s := -n) ⟨by omega, by omega, fun k' h1 h2 => by omega⟩
  · exact this
  · obtain ⟨h1, h2, hp⟩ := hk
    by_cases hkn : k ≤ n
    · have hd : decide (k ≤ n) = true := by simpa using hkn
      obtain ⟨y, hy, hR⟩ := bez_in h hn ⟨h1, hkn⟩
      match y, hR, hy with
      | .inl (), hR, hy =>
        right
        refine ⟨k + 1, ?_, ⟨by omega, by omega, fun k' h3 h4 => ?_⟩, by omega, fun y hy => hy⟩
        · simp only [s_l9Bezout_s4, hd, cond_true, hy, Option.bind_some]
          rw [wrap_id (by omega) (by omega)]
        · by_cases hkk : k' < k
          · exact hp k' h3 hkk
          · have : k' = k := by omega
            subst this; exact hR
      | .inr w, hR, hy =>
        left
        exact ⟨.inr w, by simp only [s_l9Bezout_s4, hd, cond_true, hy, Option.bind_some], hR⟩
    · left
      have hd : decide (k ≤ n) = false := by simpa using hkn
      exact ⟨.inl (), by simp only [s_l9Bezout_s4, hd, cond_false], fun k' h3 h4 => hp k' h3 (by omega)⟩
theorem bezout_eq {a b : Int} (h : Pv a b) : ∃ w, s_l9Bezout [a, b] = some w ∧ Bz a b w := by
  obtain ⟨x, y, _, hxy, hx, hy⟩ := partner_eq ⟨h.a1, h.a2⟩ ⟨h.b1, h.b2⟩ h.g
  let n0 : Nat := max x.natAbs y.natAbs
  have := iter_run (step := s_l9Bezout_s3 [a, b]) (fun n => 0 ≤ n ∧ n ≤ (n0 : Int)) (fun n => n0 - n.toNat) (fun _ w => Bz a b w) (fun n hn => ?_) (s := 0) ⟨by omega, by omega⟩
  · obtain ⟨w, h1, h2⟩ := this
    exact ⟨w, by simp only [s_l9Bezout, h1, Option.bind_some], h2⟩
  · have hn30 : 0 ≤ n ∧ n ≤ 30 := by
      have : n0 ≤ 30 := by simp only [n0]; omega
      omega
    obtain ⟨r, hr, hR⟩ := bez_mid h hn30
    have hw : IntKind.i64.wrap (0 - n) = -n := by rw [wrap_id (by omega) (by omega)]; omega
    match r, hR, hr with
    | .inl (), hR, hr =>
      right
      have hne : n ≠ (n0 : Int) := fun he => by
        have hc : crsL [a, b] [x, y] = 1 := hxy
        have hcase : (y = n ∨ y = -n) ∧ -n ≤ x ∧ x ≤ n ∨ (x = n ∨ x = -n) ∧ -n ≤ y ∧ y ≤ n := by simp only [n0] at he; omega
        rcases hcase with ⟨hyn, h1, h2⟩ | ⟨hxn, h1, h2⟩
        · refine hR x h1 h2 [x, y] ?_ hc
          rcases hyn with e | e <;> simp [tries, e]
        · refine hR y h1 h2 [x, y] ?_ hc
          rcases hxn with e | e <;> simp [tries, e]
      refine ⟨n + 1, ?_, ⟨by omega, by omega⟩, by omega, fun y hy => hy⟩
      simp only [s_l9Bezout_s3, hw, hr, Option.bind_some]
      rw [wrap_id (by omega) (by omega)]
    | .inr w, hR, hr =>
      left
      exact ⟨w, by simp only [s_l9Bezout_s3, hw, hr, Option.bind_some], hR⟩
/-! The next vector. -/
theorem flr_spec {e d : Int} (hd : 0 < d) : 0 ≤ e - flr e d * d ∧ e - flr e d * d < d := by
  have h1 := Int.mul_tdiv_add_tmod e d
  have h2 := tmod_lt (a := e) (b := d) (by omega)
  unfold flr
  split
  · have : (e.tdiv d - 1) * d = d * e.tdiv d - d := by grind
    rw [this]; omega
  · have : e.tdiv d * d = d * e.tdiv d := Int.mul_comm _ _
    rw [this]; omega
theorem flr_small {e d : Int} (hd : 0 < d) (he : -1800 ≤ e ∧ e ≤ 1800) : Tn (flr e d) := by
  have h1 : (e.tdiv d).natAbs ≤ e.natAbs := Int.natAbs_tdiv_le_natAbs e d
  unfold flr Tn
  split <;> omega
/-- What the next vector is. -/
structure Nx (a b c d x y : Int) : Prop where
  one : crs a b x y = 1
  lo : 0 ≤ crs x y c d
  hi : crs x y c d < crs a b c d
theorem Nx.uniq {a b c d x y x' y' : Int} (h : Nx a b c d x y) (k : Nx a b c d x' y') : x = x' ∧ y = y' := by
  have hD : 0 < crs a b c d := by have := h.lo; have := h.hi; omega
  -- the difference is a multiple of the vector
  have e1 : (x - x') * crs a b c d = (crs x y c d - crs x' y' c d) * a := by
    have h1 := h.one; have h2 := k.one
    unfold crs at *
    grind
  have e2 : (y - y') * crs a b c d = (crs x y c d - crs x' y' c d) * b := by
    have h1 := h.one; have h2 := k.one
    unfold crs at *
    grind
  have e4 : (crs x y c d - crs x' y' c d) = crs a b c d * ((x - x') * y' - (y - y') * x') := by
    have h2 := k.one
    have : (crs x y c d - crs x' y' c d) * (a * y' - b * x') = crs a b c d * ((x - x') * y' - (y - y') * x') := by
      grind
    unfold crs at h2
    rw [h2, Int.mul_one] at this
    exact this
  have hz : (x - x') * y' - (y - y') * x' = 0 := by
    have b1 := h.lo; have b2 := h.hi; have b3 := k.lo; have b4 := k.hi
    generalize (x - x') * y' - (y - y') * x' = t at e4
    rcases Int.lt_trichotomy t 0 with ht | ht | ht
    · have : crs a b c d * t ≤ crs a b c d * (-1) := Int.mul_le_mul_of_nonneg_left (by omega) (by omega)
      omega
    · exact ht
    · have : crs a b c d * 1 ≤ crs a b c d * t := Int.mul_le_mul_of_nonneg_left (by omega) (by omega)
      omega
  rw [hz, Int.mul_zero] at e4
  rw [e4, Int.zero_mul] at e1 e2
  have hx := (Int.mul_eq_zero.1 e1).resolve_right (by omega)
  have hy := (Int.mul_eq_zero.1 e2).resolve_right (by omega)
  omega
theorem cross_le {a b c d : Int} (h : Pv a b) (k : Pv c d) : -1800 ≤ crs a b c d ∧ crs a b c d ≤ 1800 := by
  have m : ∀ {x y : Int}, -30 ≤ x → x ≤ 30 → -30 ≤ y → y ≤ 30 → -900 ≤ x * y ∧ x * y ≤ 900 := fun {x y} h1 h2 h3 h4 => by
    have := Int.natAbs_mul x y
    have h5 : x.natAbs * y.natAbs ≤ 30 * 30 := Nat.mul_le_mul (by omega) (by omega)
    omega
  have h1 := m h.a1 h.a2 k.b1 k.b2
  have h2 := m h.b1 h.b2 k.a1 k.a2
  unfold crs; omega
theorem Nx.pv {a b c d x y : Int} (h : Nx a b c d x y) (hu : Pv a b) (hv : Pv c d) : Pv x y := by
  have hD : 0 < crs a b c d := by have := h.lo; have := h.hi; omega
  have bx : crs a b c d * x = crs x y c d * a + c := by have h1 := h.one; unfold crs at *; grind
  have bY : crs a b c d * y = crs x y c d * b + d := by have h1 := h.one; unfold crs at *; grind
  have b1 := h.lo; have b2 := h.hi
  generalize hDD : crs a b c d = D at *
  generalize crs x y c d = e at *
  have key : ∀ {p q z : Int}, -30 ≤ p → p ≤ 30 → -30 ≤ q → q ≤ 30 → D * z = e * p + q → -30 ≤ z ∧ z ≤ 30 := fun {p q z} h1 h2 h3 h4 h5 => by
    have u1 : e * p ≤ e * 30 := Int.mul_le_mul_of_nonneg_left h2 b1
    have u2 : e * (-30) ≤ e * p := Int.mul_le_mul_of_nonneg_left h1 b1
    have u3 : D * z ≤ D * 30 := by omega
    have u4 : D * (-30) ≤ D * z := by omega
    exact ⟨Int.le_of_mul_le_mul_left u4 hD, Int.le_of_mul_le_mul_left u3 hD⟩
  have hx := key hu.a1 hu.a2 hv.a1 hv.a2 bx
  have hy := key hu.b1 hu.b2 hv.b1 hv.b2 bY
  refine ⟨hx.1, hx.2, hy.1, hy.2, ?_⟩
  have h1 : (Int.gcd x y : Int) ∣ crs a b x y := by
    unfold crs
    exact Int.dvd_sub (Int.dvd_mul_of_dvd_right (Int.gcd_dvd_right ..)) (Int.dvd_mul_of_dvd_right (Int.gcd_dvd_left ..))
  rw [h.one] at h1
  have := Int.eq_one_of_dvd_one (by omega) h1
  omega
theorem step_nx {a b c d x y : Int} (hw : a * y - b * x = 1) (hD : 0 < crs a b c d) :
    Nx a b c d (x - flr (crs x y c d) (crs a b c d) * a) (y - flr (crs x y c d) (crs a b c d) * b) := by
  have h := flr_spec (e := crs x y c d) hD
  generalize flr (crs x y c d) (crs a b c d) = f at *
  have e : crs (x - f * a) (y - f * b) c d = crs x y c d - f * crs a b c d := by unfold crs; grind
  refine ⟨?_, by rw [e]; exact h.1, by rw [e]; exact h.2⟩
  unfold crs; grind
theorem sub_eq2 {x y f a b : Int} (hx : Tn x) (hy : Tn y) (ha : Tn a) (hb : Tn b) (hf : Tn f) : i_less [x, y] f [a, b] = some ((), ([x - f * a, y - f * b], ())) := by
  have := less_eq ([(x, a), (y, b)] : List (Int × Int)) (·.1) (·.2) (c := f) (by simp) (by simp [hx, hy]) (by simp [ha, hb]) hf
  simpa using this
theorem i_next {a b c d : Int} (hu : Pv a b) (hv : Pv c d) (hD : 0 < crs a b c d) : ∃ x y x' y', i_partner [a, b] = some [x, y] ∧ i_cross [x, y] [c, d] = some (crs x y c d) ∧ i_down (crs x y c d) (crs a b c d) = some (flr (crs x y c d) (crs a b c d)) ∧
    i_less [x, y] (flr (crs x y c d) (crs a b c d)) [a, b] = some ((), ([x', y'], ())) ∧ Nx a b c d x' y' := by
  obtain ⟨x, y, h1, h2, hx, hy⟩ := partner_eq ⟨hu.a1, hu.a2⟩ ⟨hu.b1, hu.b2⟩ hu.g
  have tx : Tn x := by unfold Tn; omega
  have ty : Tn y := by unfold Tn; omega
  have hc : -1800 ≤ crs x y c d ∧ crs x y c d ≤ 1800 := by
    have m : ∀ {x y : Int}, -30 ≤ x → x ≤ 30 → -30 ≤ y → y ≤ 30 → -900 ≤ x * y ∧ x * y ≤ 900 := fun {x y} h1 h2 h3 h4 => by
      have := Int.natAbs_mul x y
      have h5 : x.natAbs * y.natAbs ≤ 30 * 30 := Nat.mul_le_mul (by omega) (by omega)
      omega
    have h1 := m hx.1 hx.2 hv.b1 hv.b2
    have h2 := m hy.1 hy.2 hv.a1 hv.a2
    unfold crs; omega
  exact ⟨x, y, _, _, h1, cross_eq tx ty hv.ta hv.tb, down_eq hD (by unfold Sm; omega), sub_eq2 tx ty hu.ta hu.tb (flr_small hD hc), step_nx h2 hD⟩
theorem l2Less_eq {x y p q : Int} (hx : Tn x) (hy : Tn y) (hp : Sm p) (hq : Sm q) : s_l2Less [x, y] [p, q] = some [x - p, y - q] := by
  unfold Tn at hx hy
  unfold Sm at hp hq
  have w1 : IntKind.i64.wrap (x - p) = x - p := wrap_id (by omega) (by omega)
  have w2 : IntKind.i64.wrap (y - q) = y - q := wrap_id (by omega) (by omega)
  have := iter_up (step := s_l2Less_s3 [x, y] [p, q]) 2 (fun k => (([x - p, y - q] : List Int).take k, (k : Int))) [x - p, y - q] (fun k hk => ?_) ?_
  · simp only [s_l2Less]
    simp only [List.take_zero, show ((0 : Nat) : Int) = 0 from rfl] at this
    rw [this]; rfl
  · match k, hk with
    | 0, _ =>
      have e0 : idx [x, y] ((0 : Nat) : Int) = some x := rfl
      have e1 : idx [p, q] ((0 : Nat) : Int) = some p := rfl
      have happ : appD 8 (([x - p, y - q] : List Int).take 0) [x - p] = some [x - p] := by rw [appD_some (by rw [lim_eq]; simp) (by rw [lim_eq]; simp)]; rfl
      simp only [s_l2Less_s3, e0, e1, Option.bind_some, w1, happ]; rfl
    | 1, _ =>
      have e0 : idx [x, y] ((1 : Nat) : Int) = some y := rfl
      have e1 : idx [p, q] ((1 : Nat) : Int) = some q := rfl
      have happ : appD 8 (([x - p, y - q] : List Int).take 1) [y - q] = some [x - p, y - q] := by rw [appD_some (by rw [lim_eq]; simp) (by rw [lim_eq]; simp)]; rfl
      simp only [s_l2Less_s3, e0, e1, Option.bind_some, w2, happ]; rfl
  · rfl
theorem s_next {a b c d : Int} (hu : Pv a b) (hv : Pv c d) (hD : 0 < crs a b c d) : ∃ x' y', s_l9Next [a, b] [c, d] = some [x', y'] ∧ Nx a b c d x' y' := by
  obtain ⟨w, h1, ⟨x, y, rfl, h2, hx, hy⟩⟩ := bezout_eq hu
  have tx : Tn x := by unfold Tn; omega
  have ty : Tn y := by unfold Tn; omega
  have hc : -1800 ≤ crs x y c d ∧ crs x y c d ≤ 1800 := by
    have m : ∀ {x y : Int}, -30 ≤ x → x ≤ 30 → -30 ≤ y → y ≤ 30 → -900 ≤ x * y ∧ x * y ≤ 900 := fun {x y} h1 h2 h3 h4 => by
      have := Int.natAbs_mul x y
      have h5 : x.natAbs * y.natAbs ≤ 30 * 30 := Nat.mul_le_mul (by omega) (by omega)
      omega
    have h1 := m hx.1 hx.2 hv.b1 hv.b2
    have h2 := m hy.1 hy.2 hv.a1 hv.a2
    unfold crs; omega
  have tf := flr_small hD hc
  have hsc : s_l2Scale [a, b] (flr (crs x y c d) (crs a b c d)) = some [a * flr (crs x y c d) (crs a b c d), b * flr (crs x y c d) (crs a b c d)] :=
    l2Scale_eq (xs := [a, b]) (by simp) (by simp [hu.ta, hu.tb]) tf
  have s1 : Sm (a * flr (crs x y c d) (crs a b c d)) := by have := mul_tn hu.ta tf; unfold Sm; omega
  have s2 : Sm (b * flr (crs x y c d) (crs a b c d)) := by have := mul_tn hu.tb tf; unfold Sm; omega
  refine ⟨_, _, ?_, step_nx h2 hD⟩
  simp only [s_l9Next, l7Cross_eq hu.ta hu.tb hv.ta hv.tb, h1, l7Cross_eq tx ty hv.ta hv.tb, l3Floor_eq hD (show Sm (crs x y c d) by unfold Sm; omega), hsc, l2Less_eq tx ty s1 s2, Option.bind_some]
  rw [Int.mul_comm a, Int.mul_comm b]
end Go.Proofs.Ytmdagdopfgiaiaa
