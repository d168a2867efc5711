/-
  The number twelve, for closed chains of whole points. Plain, no condition.
-/
import Derived.Test.YtgbkkmidloeciaaGreatPlDt
namespace Go.Proofs.YtgbkkmidloeciaaGreat
open Go Go.Proofs.YtgbkkmidloeciaaGreat.Eng Hull
set_option linter.unusedVariables false
set_option linter.unusedSimpArgs false
/-! Closed chains of points whose neighbors have determinant one. -/
def dP (a b : Pt) : Int := a.1 * b.2 - a.2 * b.1
theorem dP_self (a : Pt) : dP a a = 0 := by unfold dP; grind
theorem dP_swap (a b : Pt) : dP a b = - dP b a := by unfold dP; grind
/-- three points: the middle one out of its neighbors -/
theorem dP_rel (a b c : Pt) : dP a c * b.1 = dP b c * a.1 + dP a b * c.1 ∧ dP a c * b.2 = dP b c * a.2 + dP a b * c.2 := by
  unfold dP; constructor <;> grind
theorem dP_rel4 (a b c d : Pt) : dP a c * dP d b = dP b c * dP d a + dP a b * dP d c := by
  unfold dP; grind
/-- A closed chain of n points round the origin. -/
structure Ch (n : Nat) (u : Nat → Pt) : Prop where
  len : 3 ≤ n
  per : ∀ k, u (k + n) = u k
  step : ∀ i, dP (u i) (u (i + 1)) = 1
  cvx : ∀ i j, dP (u j) (u (i + 1)) - dP (u j) (u i) ≤ 1
  inj : ∀ i j, i < n → j < n → u i = u j → i = j
def fT (u : Nat → Pt) (k : Nat) : Int := 3 - dP (u k) (u (k + 2))
theorem sumF_shift {f : Nat → Int} {n : Nat} (h : f n = f 0) : sumF (fun k => f (k + 1)) n = sumF f n := by
  have h1 := sumF_front f n
  simp only [sumF] at h1
  omega
theorem succ_inj {α : Type} {n : Nat} {u : Nat → α} (per : ∀ k, u (k + n) = u k) (inj : ∀ i j, i < n → j < n → u i = u j → i = j) (i j : Nat) (hi : i < n) (hj : j < n) (e : u (i + 1) = u (j + 1)) : i = j := by
  by_cases h1 : i + 1 = n
  · by_cases h2 : j + 1 = n
    · omega
    · have h3 := per 0
      rw [Nat.zero_add, ← h1] at h3
      rw [h3] at e
      have := inj 0 (j + 1) (by omega) (by omega) e
      omega
  · by_cases h2 : j + 1 = n
    · have h3 := per 0
      rw [Nat.zero_add, ← h2] at h3
      rw [h3] at e
      have := inj (i + 1) 0 (by omega) (by omega) e
      omega
    · have := inj (i + 1) (j + 1) (by omega) (by omega) e
      omega
theorem Ch.rot {n : Nat} {u : Nat → Pt} (h : Ch n u) : Ch n (fun k => u (k + 1)) where
  len := h.len
  per k := by rw [show k + n + 1 = k + 1 + n from by omega]; exact h.per _
  step i := h.step _
  cvx i j := h.cvx _ _
  inj := succ_inj h.per h.inj
theorem fT_per {n : Nat} {u : Nat → Pt} (per : ∀ k, u (k + n) = u k) : fT u n = fT u 0 := by
  unfold fT
  rw [show n + 2 = 2 + n from by omega, per 2, show u n = u 0 from by have := per 0; rwa [Nat.zero_add] at this]
theorem Ch.rots {n : Nat} : (i : Nat) → {u : Nat → Pt} → Ch n u → ∃ v, Ch n v ∧ sumF (fT v) n = sumF (fT u) n ∧ ∀ k, v k = u (k + i)
  | 0, u, h => ⟨u, h, rfl, fun _ => rfl⟩
  | i + 1, u, h => by
    obtain ⟨v, h1, h2, h3⟩ := Ch.rots i h.rot
    exact ⟨v, h1, by rw [h2]; exact sumF_shift (fT_per h.per), fun k => by rw [h3]; congr 1⟩
/-- A point that is the sum of its neighbors goes. -/
theorem Ch.cut {m : Nat} {u : Nat → Pt} (h : Ch (m + 4) u) (ha : dP (u (m + 2)) (u (m + 4)) = 1) : ∃ v, Ch (m + 3) v ∧ sumF (fT v) (m + 3) = sumF (fT u) (m + 4) := by
  have h0 : u (m + 4) = u 0 := by have := h.per 0; rwa [Nat.zero_add] at this
  have h1 : u (m + 5) = u 1 := by have := h.per 1; rwa [show 1 + (m + 4) = m + 5 from by omega] at this
  have s2 := h.step (m + 2)
  have s3 := h.step (m + 3)
  have s0 := h.step 0
  rw [show m + 3 + 1 = m + 4 from rfl, h0] at s3
  rw [show m + 2 + 1 = m + 3 from rfl] at s2
  rw [h0] at ha
  have rel : ∀ d, dP d (u (m + 3)) = dP d (u (m + 2)) + dP d (u 0) := fun d => by
    have := dP_rel4 (u (m + 2)) (u (m + 3)) (u 0) d
    rw [ha, s3, s2] at this
    omega
  have vk : ∀ k, k < m + 3 → u (k % (m + 3)) = u k := fun k hk => by rw [Nat.mod_eq_of_lt hk]
  have sp : ∀ i, (i + 1) % (m + 3) = i % (m + 3) + 1 ∨ (i % (m + 3) = m + 2 ∧ (i + 1) % (m + 3) = 0) := fun i => by
    have hlt : i % (m + 3) < m + 3 := Nat.mod_lt _ (by omega)
    by_cases e : i % (m + 3) = m + 2
    · right
      refine ⟨e, ?_⟩
      rw [Nat.add_mod, e, Nat.mod_eq_of_lt (a := 1) (by omega)]
      exact Nat.mod_self _
    · left
      rw [Nat.add_mod, Nat.mod_eq_of_lt (a := 1) (by omega), Nat.mod_eq_of_lt (by omega)]
  refine ⟨fun k => u (k % (m + 3)), ⟨by omega, fun k => by rw [Nat.add_mod_right], fun i => ?_, fun i j => ?_, fun i j hi hj e => ?_⟩, ?_⟩
  · show dP (u (i % (m + 3))) (u ((i + 1) % (m + 3))) = 1
    rcases sp i with e | ⟨e1, e2⟩
    · rw [e]; exact h.step _
    · rw [e1, e2]; exact ha
  · show dP (u (j % (m + 3))) (u ((i + 1) % (m + 3))) - dP (u (j % (m + 3))) (u (i % (m + 3))) ≤ 1
    have hj : j % (m + 3) < m + 3 := Nat.mod_lt _ (by omega)
    rcases sp i with e | ⟨e1, e2⟩
    · rw [e]; exact h.cvx _ _
    · rw [e1, e2]
      have c2 := h.cvx (m + 2) (j % (m + 3))
      have c3 := h.cvx (m + 3) (j % (m + 3))
      rw [show m + 3 + 1 = m + 4 from rfl, h0] at c3
      rw [show m + 2 + 1 = m + 3 from rfl] at c2
      have hr := rel (u (j % (m + 3)))
      apply Decidable.byContradiction
      intro hn
      have e3 : dP (u (j % (m + 3))) (u 0) = 1 := by omega
      have e2' : dP (u (j % (m + 3))) (u (m + 2)) = -1 := by omega
      have r := dP_rel (u (m + 2)) (u (j % (m + 3))) (u 0)
      have r' := dP_rel (u (m + 2)) (u (m + 3)) (u 0)
      rw [ha, e3, show dP (u (m + 2)) (u (j % (m + 3))) = 1 from by rw [dP_swap, e2']; rfl] at r
      rw [ha, s3, s2] at r'
      have : u (j % (m + 3)) = u (m + 3) := Prod.ext (by omega) (by omega)
      have := h.inj _ _ (by omega) (by omega) this
      omega
  · have e : u (i % (m + 3)) = u (j % (m + 3)) := e
    rw [vk i hi, vk j hj] at e
    exact h.inj i j (by omega) (by omega) e
  · show sumF (fT fun k => u (k % (m + 3))) (m + 1) + fT (fun k => u (k % (m + 3))) (m + 1) + fT (fun k => u (k % (m + 3))) (m + 2) = sumF (fT u) (m + 1) + fT u (m + 1) + fT u (m + 2) + fT u (m + 3)
    rw [sumF_congr (fT fun k => u (k % (m + 3))) (fT u) (m + 1) fun k hk => by
      unfold fT
      simp only
      rw [vk k (by omega), vk (k + 2) (by omega)]]
    have f1 : fT (fun k => u (k % (m + 3))) (m + 1) = 3 - dP (u (m + 1)) (u 0) := by
      unfold fT
      simp only
      rw [vk (m + 1) (by omega), show (m + 1 + 2) % (m + 3) = 0 from Nat.mod_self _]
    have f2 : fT (fun k => u (k % (m + 3))) (m + 2) = 3 - dP (u (m + 2)) (u 1) := by
      unfold fT
      simp only
      rw [vk (m + 2) (by omega), show (m + 2 + 2) % (m + 3) = 1 from by rw [show m + 2 + 2 = 1 + (m + 3) from by omega, Nat.add_mod_right, Nat.mod_eq_of_lt (by omega)]]
    have g1 : fT u (m + 1) = 3 - dP (u (m + 1)) (u (m + 3)) := rfl
    have g2 : fT u (m + 2) = 3 - dP (u (m + 2)) (u 0) := by unfold fT; rw [h0]
    have g3 : fT u (m + 3) = 3 - dP (u (m + 3)) (u 1) := by unfold fT; rw [h1]
    have r1 := rel (u (m + 1))
    have r2 := rel (u 1)
    rw [dP_swap (u 1), dP_swap (u 1) (u (m + 2)), dP_swap (u 1) (u 0)] at r2
    have s1 := h.step (m + 1)
    rw [show m + 1 + 1 = m + 2 from rfl] at s1
    rw [show (0 : Nat) + 1 = 1 from rfl] at s0
    omega
/-- heights over the first point that rise by one each step, till they are not above it any more -/
theorem Ch.up {n : Nat} {u : Nat → Pt} (h : Ch n u) (hn : ∀ i, dP (u i) (u (i + 2)) ≠ 1) : ∃ k, 1 ≤ k ∧ k + 1 < n ∧ (∀ j, j ≤ k → dP (u 0) (u j) = j) ∧ dP (u 0) (u (k + 1)) ≤ 0 ∧ (∀ j, j + 1 < k → dP (u j) (u (j + 2)) = 2) ∧ dP (u (k - 1)) (u (k + 1)) * k = k - 1 + dP (u 0) (u (k + 1)) := by
  have l3 := h.len
  have hl : dP (u 0) (u (n - 1)) = -1 := by
    have := h.step (n - 1)
    have h0 := h.per 0
    rw [Nat.zero_add] at h0
    rw [show n - 1 + 1 = n from by omega, h0] at this
    rw [dP_swap]; omega
  have two : ∀ i, dP (u i) (u (i + 2)) = 2 ∨ dP (u i) (u (i + 2)) ≤ 0 := fun i => by
    have c := h.cvx (i + 1) i
    have s := h.step i
    rw [show i + 1 + 1 = i + 2 from rfl] at c
    have := hn i
    omega
  have go : ∀ k, 1 ≤ k → k < n → (∃ k', 1 ≤ k' ∧ k' + 1 < n ∧ (∀ j, j ≤ k' → dP (u 0) (u j) = j) ∧ dP (u 0) (u (k' + 1)) ≤ 0 ∧ (∀ j, j + 1 < k' → dP (u j) (u (j + 2)) = 2) ∧ dP (u (k' - 1)) (u (k' + 1)) * k' = k' - 1 + dP (u 0) (u (k' + 1))) ∨ ((∀ j, j ≤ k → dP (u 0) (u j) = j) ∧ ∀ j, j + 1 < k → dP (u j) (u (j + 2)) = 2) := by
    intro k
    induction k with
    | zero => intro h1; omega
    | succ k ih =>
      intro _ hk
      by_cases k0 : k = 0
      · subst k0
        right
        refine ⟨fun j hj => ?_, fun j hj => by omega⟩
        rcases (by omega : j = 0 ∨ j = 1) with rfl | rfl
        · rw [dP_self]; rfl
        · rw [h.step 0]; rfl
      · rcases ih (by omega) (by omega) with g | ⟨g1, g2⟩
        · exact .inl g
        · obtain ⟨q, rfl⟩ : ∃ q, k = q + 1 := ⟨k - 1, by omega⟩
          have e1 := g1 (q + 1) (by omega)
          have e0 := g1 q (by omega)
          have r := dP_rel4 (u q) (u (q + 1)) (u (q + 2)) (u 0)
          rw [h.step q, h.step (q + 1), e1, e0] at r
          rcases two q with t | t
          · rw [t] at r
            have e2 : dP (u 0) (u (q + 1 + 1)) = ((q + 1 + 1 : Nat) : Int) := by
              rw [show q + 1 + 1 = q + 2 from rfl]; omega
            right
            refine ⟨fun j hj => ?_, fun j hj => ?_⟩
            · by_cases ej : j = q + 1 + 1
              · rw [ej, e2]
              · exact g1 j (by omega)
            · by_cases ej : j = q
              · rw [ej, t]
              · exact g2 j (by omega)
          · left
            refine ⟨q + 1, by omega, hk, g1, ?_, g2, ?_⟩
            · have := Int.mul_nonneg (a := - dP (u q) (u (q + 2))) (b := ((q + 1 : Nat) : Int)) (by omega) (by omega)
              rw [Int.neg_mul] at this
              rw [show q + 1 + 1 = q + 2 from rfl]
              omega
            · rw [show q + 1 - 1 = q from rfl, show q + 1 + 1 = q + 2 from rfl]
              omega
  rcases go (n - 1) (by omega) (by omega) with g | ⟨g1, _⟩
  · exact g
  · have := g1 (n - 1) (by omega)
    omega
/-! The chain backwards. -/
def sw (a : Pt) : Pt := (a.2, a.1)
theorem dP_sw (a b : Pt) : dP (sw a) (sw b) = dP b a := by unfold dP sw; grind
theorem sw_inj {a b : Pt} (h : sw a = sw b) : a = b := by
  unfold sw at h
  have h1 := congrArg Prod.fst h
  have h2 := congrArg Prod.snd h
  exact Prod.ext h2 h1
theorem per_mul {α : Type} {n : Nat} {u : Nat → α} (per : ∀ k, u (k + n) = u k) (k : Nat) : ∀ m, u (k + n * m) = u k
  | 0 => rfl
  | m + 1 => by rw [Nat.mul_succ, ← Nat.add_assoc, per, per_mul per k m]
theorem per_mod {α : Type} {n : Nat} {u : Nat → α} (per : ∀ k, u (k + n) = u k) (k : Nat) : u (k % n) = u k := by
  have := per_mul per (k % n) (k / n)
  rw [Nat.mod_add_div] at this
  exact this.symm
theorem back_at {α : Type} {n : Nat} {u : Nat → α} (per : ∀ k, u (k + n) = u k) {k : Nat} (h : k ≤ n) (h0 : 0 < n) : u ((n - 1) * k) = u (n - k) := by
  by_cases hk : k = 0
  · subst hk; rw [Nat.mul_zero, Nat.sub_zero]; have := per 0; rw [Nat.zero_add] at this; exact this.symm
  · have e : (n - 1) * k = n - k + n * (k - 1) := by
      obtain ⟨q, rfl⟩ : ∃ q, k = q + 1 := ⟨k - 1, by omega⟩
      obtain ⟨p, rfl⟩ : ∃ p, n = p + (q + 1) := ⟨n - (q + 1), by omega⟩
      rw [show p + (q + 1) - 1 = p + q from by omega, show p + (q + 1) - (q + 1) = p from by omega, show q + 1 - 1 = q from rfl]
      grind
    rw [e, per_mul per]
theorem back_step {α : Type} {n : Nat} {u : Nat → α} (per : ∀ k, u (k + n) = u k) (h0 : 0 < n) (k : Nat) : u ((n - 1) * k) = u ((n - 1) * (k + 1) + 1) := by
  have e : (n - 1) * (k + 1) + 1 = (n - 1) * k + n := by rw [Nat.mul_succ]; omega
  rw [e, per]
theorem Ch.back {n : Nat} {u : Nat → Pt} (h : Ch n u) : Ch n (fun k => sw (u ((n - 1) * k))) where
  len := h.len
  per k := by
    have : (n - 1) * (k + n) = (n - 1) * k + n * (n - 1) := by rw [Nat.mul_add, Nat.mul_comm (n - 1) n]
    rw [this, per_mul h.per]
  step i := by
    have l3 := h.len
    rw [dP_sw, back_step h.per (by omega) i]
    exact h.step _
  cvx i j := by
    have l3 := h.len
    rw [dP_sw, dP_sw, back_step h.per (by omega) i]
    have := h.cvx ((n - 1) * (i + 1)) ((n - 1) * j)
    rw [dP_swap, dP_swap (u ((n - 1) * (i + 1) + 1))]
    omega
  inj i j hi hj e := by
    have l3 := h.len
    have e := sw_inj e
    rw [back_at h.per (by omega) (by omega), back_at h.per (by omega) (by omega)] at e
    by_cases hi0 : i = 0
    · by_cases hj0 : j = 0
      · omega
      · have h0 := h.per 0
        rw [Nat.zero_add] at h0
        rw [hi0, Nat.sub_zero, h0] at e
        have := h.inj 0 (n - j) (by omega) (by omega) e
        omega
    · by_cases hj0 : j = 0
      · have h0 := h.per 0
        rw [Nat.zero_add] at h0
        rw [hj0, Nat.sub_zero, h0] at e
        have := h.inj (n - i) 0 (by omega) (by omega) e
        omega
      · have := h.inj (n - i) (n - j) (by omega) (by omega) e
        omega
theorem Ch.down {n : Nat} {u : Nat → Pt} (h : Ch n u) (hn : ∀ i, dP (u i) (u (i + 2)) ≠ 1) : ∃ l, 1 ≤ l ∧ l + 1 < n ∧ (∀ j, j ≤ l → dP (u 0) (u (n - j)) = -(j : Int)) ∧ 0 ≤ dP (u 0) (u (n - l - 1)) ∧ (∀ j, j + 1 < l → dP (u (n - j - 2)) (u (n - j)) = 2) ∧ dP (u (n - l - 1)) (u (n - l + 1)) * l = l - 1 - dP (u 0) (u (n - l - 1)) := by
  have l3 := h.len
  have bk : ∀ k, k ≤ n → u ((n - 1) * k) = u (n - k) := fun k hk => back_at h.per hk (by omega)
  have hn' : ∀ i, dP (sw (u ((n - 1) * i))) (sw (u ((n - 1) * (i + 2)))) ≠ 1 := fun i => by
    have e : (n - 1) * (i + 2) + 2 = (n - 1) * i + n * 2 := by rw [Nat.mul_add]; omega
    rw [dP_sw, ← per_mul h.per ((n - 1) * i) 2, ← e]
    exact hn _
  obtain ⟨l, k1, k2, k3, k4, k5, k6⟩ := h.back.up hn'
  simp only [dP_sw, Nat.mul_zero] at k3 k4 k5 k6
  refine ⟨l, k1, k2, fun j hj => ?_, ?_, fun j hj => ?_, ?_⟩
  · have := k3 j hj
    rw [bk j (by omega)] at this
    rw [dP_swap]; omega
  · rw [bk (l + 1) (by omega)] at k4
    rw [dP_swap, show n - l - 1 = n - (l + 1) from by omega]; omega
  · have := k5 j hj
    rw [bk j (by omega), bk (j + 2) (by omega)] at this
    rw [show n - j - 2 = n - (j + 2) from by omega]; exact this
  · rw [bk (l + 1) (by omega), bk (l - 1) (by omega)] at k6
    rw [show n - l - 1 = n - (l + 1) from by omega, show n - l + 1 = n - (l - 1) from by omega, k6, dP_swap]
    omega
/-- below the first point it does not come back -/
theorem Ch.below {n : Nat} {u : Nat → Pt} (h : Ch n u) {j : Nat} (h1 : 1 ≤ j) (h2 : j + 1 < n) (h3 : dP (u 0) (u j) ≤ 0) : dP (u 0) (u (j + 1)) < 0 := by
  apply Decidable.byContradiction
  intro hn
  have c := h.cvx j 0
  have s := h.step j
  have r := dP_rel (u j) (u 0) (u (j + 1))
  rw [s, dP_swap (u j) (u 0)] at r
  by_cases e : dP (u 0) (u j) = 0
  · rw [e] at r c
    have : dP (u 0) (u (j + 1)) = 0 ∨ dP (u 0) (u (j + 1)) = 1 := by omega
    rcases this with t | t
    · rw [t] at r
      have s0 := h.step 0
      unfold dP at s0
      rw [show (u 0).1 = 0 from by omega, show (u 0).2 = 0 from by omega] at s0
      simp at s0
    · rw [t] at r
      have := h.inj 0 j (by omega) (by omega) (Prod.ext (by omega) (by omega))
      omega
  · have e1 : dP (u 0) (u j) = -1 := by omega
    have e2 : dP (u 0) (u (j + 1)) = 0 := by omega
    rw [e1, e2] at r
    have := h.inj 0 (j + 1) (by omega) (by omega) (Prod.ext (by omega) (by omega))
    omega
theorem Ch.below_all {n : Nat} {u : Nat → Pt} (h : Ch n u) {j : Nat} (h1 : 1 ≤ j) (h3 : dP (u 0) (u j) ≤ 0) : ∀ d, j + d + 1 < n → dP (u 0) (u (j + d + 1)) < 0
  | 0, hd => h.below h1 hd h3
  | d + 1, hd => h.below (j := j + d + 1) (by omega) hd (Int.le_of_lt (Ch.below_all h h1 h3 d (by omega)))
theorem unit_two {x k : Int} (h : x * k = 1) (hk : 2 ≤ k) : False := by
  by_cases hx : x ≤ 0
  · have := Int.mul_nonneg (a := -x) (b := k) (by omega) (by omega)
    rw [Int.neg_mul] at this
    omega
  · have := Int.mul_nonneg (a := x - 1) (b := k) (by omega) (by omega)
    rw [Int.sub_mul] at this
    omega
theorem mul_bd {k l c : Int} (hk : 1 ≤ k) (hl : 1 ≤ l) (h : k * l * c = k + l + 1) : (k = 1 ∧ l ≤ 2) ∨ (l = 1 ∧ k ≤ 2) ∨ (k = 2 ∧ l = 3) ∨ (k = 3 ∧ l = 2) := by
  have hc : 1 ≤ c := by
    apply Decidable.byContradiction
    intro hn
    have h1 : 0 ≤ k * l := Int.mul_nonneg (by omega) (by omega)
    have := Int.mul_nonneg (a := k * l) (b := -c) h1 (by omega)
    rw [Int.mul_neg] at this
    omega
  by_cases k1 : k = 1
  · left
    refine ⟨k1, ?_⟩
    subst k1
    rw [Int.one_mul] at h
    apply Decidable.byContradiction
    intro hn
    by_cases c1 : c = 1
    · subst c1; omega
    · have := Int.mul_nonneg (a := l) (b := c - 2) (by omega) (by omega)
      rw [Int.mul_sub] at this
      omega
  · by_cases l1 : l = 1
    · right; left
      refine ⟨l1, ?_⟩
      subst l1
      rw [Int.mul_one] at h
      apply Decidable.byContradiction
      intro hn
      by_cases c1 : c = 1
      · subst c1; omega
      · have := Int.mul_nonneg (a := k) (b := c - 2) (by omega) (by omega)
        rw [Int.mul_sub] at this
        omega
    · right; right
      have h1 : k * l ≤ k + l + 1 := by
        have := Int.mul_nonneg (a := k * l) (b := c - 1) (Int.mul_nonneg (by omega) (by omega)) (by omega)
        rw [Int.mul_sub, Int.mul_one] at this
        omega
      by_cases k2 : k = 2
      · subst k2
        have : l ≤ 3 := by omega
        by_cases l2 : l = 2
        · subst l2; omega
        · left; omega
      · have k3 : k = 3 := by
          have := Int.mul_nonneg (a := k - 3) (b := l - 2) (by omega) (by omega)
          have e : (k - 3) * (l - 2) = k * l - 2 * k - 3 * l + 6 := by grind
          omega
        subst k3
        have : l = 2 := by omega
        right; omega
theorem alg_key (a b c d e f K L : Int) (h : (a + K * (c - a)) * (b + L * (f - b)) - (b + K * (d - b)) * (a + L * (e - a)) = 1) (h0 : a * d - b * c = 1) (h1 : e * b - f * a = 1) : K * L * (2 - (e * d - f * c)) = K + L + 1 := by grind
theorem Ch.four {n : Nat} {u : Nat → Pt} (h : Ch n u) (h4 : n ≤ 4) : sumF (fT u) n = 12 := by
  have l3 := h.len
  rcases (by omega : n = 3 ∨ n = 4) with rfl | rfl
  · have s0 := h.step 0
    have s1 := h.step 1
    have s2 := h.step 2
    have p0 : u 3 = u 0 := h.per 0
    have p1 : u 4 = u 1 := h.per 1
    simp only [sumF, fT, Nat.zero_add, Nat.reduceAdd, p0, p1] at *
    rw [dP_swap (u 0) (u 2), dP_swap (u 1) (u 0), dP_swap (u 2) (u 1)]
    omega
  · have p0 : u 4 = u 0 := h.per 0
    have p1 : u 5 = u 1 := h.per 1
    simp only [sumF, fT, Nat.zero_add, Nat.reduceAdd, p0, p1] at *
    rw [dP_swap (u 2) (u 0), dP_swap (u 3) (u 1)]
    omega
/-- A chain without a point that is the sum of its neighbors. -/
theorem Ch.least {n : Nat} {u : Nat → Pt} (h : Ch n u) (hn : ∀ i, dP (u i) (u (i + 2)) ≠ 1) : sumF (fT u) n = 12 := by
  have l3 := h.len
  have h0 : u n = u 0 := by have := h.per 0; rwa [Nat.zero_add] at this
  have h1 : u (n + 1) = u 1 := by have := h.per 1; rwa [Nat.add_comm 1 n] at this
  obtain ⟨k, k1, k2, k3, k4, k5, k6⟩ := h.up hn
  obtain ⟨l, l1, l2, l3', l4, l5, l6⟩ := h.down hn
  have hkl : n ≤ k + l + 2 := by
    apply Decidable.byContradiction
    intro hc
    have := h.below_all (j := k + 1) (by omega) k4 (n - l - 1 - (k + 1) - 1) (by omega)
    rw [show k + 1 + (n - l - 1 - (k + 1) - 1) + 1 = n - l - 1 from by omega] at this
    omega
  have hkl2 : k + l + 1 ≤ n := by
    apply Decidable.byContradiction
    intro hc
    have e1 := k3 k (Nat.le_refl _)
    have e2 := l3' (n - k) (by omega)
    rw [show n - (n - k) = k from by omega] at e2
    omega
  by_cases e : n = k + l + 2
  · have z : dP (u 0) (u (k + 1)) = 0 := by
      rw [show n - l - 1 = k + 1 from by omega] at l4
      omega
    rw [z] at k6
    rw [show n - l - 1 = k + 1 from by omega, z] at l6
    have kk : k = 1 := by
      apply Decidable.byContradiction
      intro hc
      have e1 : (1 - dP (u (k - 1)) (u (k + 1))) * (k : Int) = 1 := by rw [Int.sub_mul]; omega
      exact unit_two e1 (by omega)
    have ll : l = 1 := by
      apply Decidable.byContradiction
      intro hc
      have e1 : (1 - dP (u (k + 1)) (u (n - l + 1))) * (l : Int) = 1 := by rw [Int.sub_mul]; omega
      exact unit_two e1 (by omega)
    exact h.four (by omega)
  · have en : n = k + l + 1 := by omega
    have z : dP (u 0) (u (k + 1)) = -(l : Int) := by
      have := l3' l (Nat.le_refl _)
      rwa [show n - l = k + 1 from by omega] at this
    rw [z] at k6
    have e3 := k3 k (Nat.le_refl _)
    rw [show n - l - 1 = k from by omega, show n - l + 1 = k + 2 from by omega, e3] at l6
    -- the points on both sides of the first one lie on two lines
    have upl : ∀ j, j ≤ k → (u j).1 = (u 0).1 + j * ((u 1).1 - (u 0).1) ∧ (u j).2 = (u 0).2 + j * ((u 1).2 - (u 0).2) := by
      intro j
      induction j using Nat.strongRecOn with
      | _ j ih =>
        intro hj
        match j, ih, hj with
        | 0, _, _ => constructor <;> simp
        | 1, _, _ => constructor <;> simp <;> omega
        | j + 2, ih, hj =>
          have a := ih j (by omega) (by omega)
          have b := ih (j + 1) (by omega) (by omega)
          have r := dP_rel (u j) (u (j + 1)) (u (j + 2))
          rw [k5 j (by omega), h.step j, h.step (j + 1), a.1, a.2, b.1, b.2] at r
          constructor <;> grind
    have dnl : ∀ j, j ≤ l → (u (n - j)).1 = (u 0).1 + j * ((u (n - 1)).1 - (u 0).1) ∧ (u (n - j)).2 = (u 0).2 + j * ((u (n - 1)).2 - (u 0).2) := by
      intro j
      induction j using Nat.strongRecOn with
      | _ j ih =>
        intro hj
        match j, ih, hj with
        | 0, _, _ => rw [Nat.sub_zero, h0]; constructor <;> simp
        | 1, _, _ => constructor <;> simp <;> omega
        | j + 2, ih, hj =>
          have a := ih j (by omega) (by omega)
          have b := ih (j + 1) (by omega) (by omega)
          have r := dP_rel (u (n - j - 2)) (u (n - j - 1)) (u (n - j))
          have s1 := h.step (n - j - 2)
          have s2 := h.step (n - j - 1)
          rw [show n - j - 2 + 1 = n - j - 1 from by omega] at s1
          rw [show n - j - 1 + 1 = n - j from by omega] at s2
          rw [l5 j (by omega), s1, s2, a.1, a.2, show n - j - 1 = n - (j + 1) from by omega, b.1, b.2] at r
          rw [show n - (j + 2) = n - j - 2 from by omega]
          constructor <;> grind
    have uk := upl k (Nat.le_refl _)
    have ul := dnl l (Nat.le_refl _)
    rw [show n - l = k + 1 from by omega] at ul
    have sk := h.step k
    have s0 := h.step 0
    have sn := h.step (n - 1)
    rw [show n - 1 + 1 = n from by omega, h0] at sn
    have key : (k : Int) * l * (2 - dP (u (n - 1)) (u 1)) = k + l + 1 := by
      unfold dP at sk s0 sn ⊢
      rw [uk.1, uk.2, ul.1, ul.2] at sk
      simp only [Nat.zero_add] at s0
      exact alg_key _ _ _ _ _ _ _ _ sk s0 sn
    have u3 : ∀ i, i + 1 = n → dP (u i) (u (i + 2)) = dP (u (n - 1)) (u 1) := fun i hi => by
      rw [show n - 1 = i from by omega, show i + 2 = n + 1 from by omega, h1]
    rcases mul_bd (k := k) (l := l) (by omega) (by omega) key with ⟨q1, q2⟩ | ⟨q1, q2⟩ | ⟨q1, q2⟩ | ⟨q1, q2⟩
    · exact Ch.four h (by omega)
    · exact Ch.four h (by omega)
    · rw [q1, q2] at key
      have := hn (n - 1)
      rw [u3 (n - 1) (by omega)] at this
      omega
    · rw [q1, q2] at key
      have := hn (n - 1)
      rw [u3 (n - 1) (by omega)] at this
      omega
/-- The number twelve of a chain. -/
theorem Ch.twelve : (n : Nat) → {u : Nat → Pt} → Ch n u → sumF (fT u) n = 12
  | 0, _, h => absurd h.len (by omega)
  | 1, _, h => absurd h.len (by omega)
  | 2, _, h => absurd h.len (by omega)
  | 3, _, h => h.four (by omega)
  | m + 4, u, h => by
    by_cases hn : ∀ i, dP (u i) (u (i + 2)) ≠ 1
    · exact h.least hn
    · obtain ⟨i, hi⟩ := Classical.not_forall.1 hn
      have hi : dP (u i) (u (i + 2)) = 1 := Decidable.not_not.1 hi
      -- turn it so that the point comes last
      obtain ⟨v, hv, hs, hk⟩ := h.rots (i + (m + 2) * (m + 3))
      have e : dP (v (m + 2)) (v (m + 4)) = 1 := by
        rw [hk, hk, show m + 2 + (i + (m + 2) * (m + 3)) = i + (m + 4) * (m + 2) from by grind, show m + 4 + (i + (m + 2) * (m + 3)) = i + 2 + (m + 4) * (m + 2) from by grind, per_mul h.per, per_mul h.per]
        exact hi
      obtain ⟨w, hw, hws⟩ := hv.cut e
      rw [← hs, ← hws]
      exact Ch.twelve (m + 3) hw
/-! Chains with sides of any length. -/
def go (a e : Pt) (s : Int) : Pt := (a.1 + s * e.1, a.2 + s * e.2)
structure Gc (n : Nat) (u e : Nat → Pt) (g : Nat → Int) : Prop where
  len : 3 ≤ n
  peru : ∀ k, u (k + n) = u k
  pere : ∀ k, e (k + n) = e k
  perg : ∀ k, g (k + n) = g k
  pos : ∀ i, 1 ≤ g i
  nxt : ∀ i, u (i + 1) = go (u i) (e i) (g i)
  one : ∀ i, dP (u i) (e i) = 1
  cvx : ∀ i j, dP (u j) (e i) ≤ 1
  inj : ∀ i j s t, i < n → j < n → 0 ≤ s → s < g i → 0 ≤ t → t < g j → go (u i) (e i) s = go (u j) (e j) t → i = j
def gT (e : Nat → Pt) (g : Nat → Int) (k : Nat) : Int := g k + dP (e k) (e (k + 1))
theorem go_zero (a e : Pt) : go a e 0 = a := by unfold go; simp
theorem dP_go (a e d : Pt) (s : Int) : dP d (go a e s) = dP d a + s * dP d e := by unfold dP go; grind
theorem go_dP (a e d : Pt) (s : Int) : dP (go a e s) d = dP a d + s * dP e d := by unfold dP go; grind
theorem go_go (a e : Pt) (s t : Int) : go (go a e s) e t = go a e (s + t) := by unfold go; apply Prod.ext <;> grind
theorem mod_step {n : Nat} (h : 2 ≤ n) (i : Nat) : ((i + 1) % n = i % n + 1 ∧ i % n + 1 < n) ∨ (i % n + 1 = n ∧ (i + 1) % n = 0) := by
  have hlt : i % n < n := Nat.mod_lt _ (by omega)
  by_cases e : i % n + 1 = n
  · right
    refine ⟨e, ?_⟩
    rw [Nat.add_mod, Nat.mod_eq_of_lt (a := 1) (by omega), e]
    exact Nat.mod_self _
  · left
    rw [Nat.add_mod, Nat.mod_eq_of_lt (a := 1) (by omega), Nat.mod_eq_of_lt (by omega)]
    omega
theorem Gc.rot {n : Nat} {u e : Nat → Pt} {g : Nat → Int} (h : Gc n u e g) : Gc n (fun k => u (k + 1)) (fun k => e (k + 1)) (fun k => g (k + 1)) where
  len := h.len
  peru k := by rw [show k + n + 1 = k + 1 + n from by omega]; exact h.peru _
  pere k := by rw [show k + n + 1 = k + 1 + n from by omega]; exact h.pere _
  perg k := by rw [show k + n + 1 = k + 1 + n from by omega]; exact h.perg _
  pos i := h.pos _
  nxt i := h.nxt _
  one i := h.one _
  cvx i j := h.cvx _ _
  inj i j s t hi hj s0 s1 t0 t1 he := by
    have l3 := h.len
    have key := h.inj ((i + 1) % n) ((j + 1) % n) s t (Nat.mod_lt _ (by omega)) (Nat.mod_lt _ (by omega)) s0 (by rw [per_mod h.perg]; exact s1) t0 (by rw [per_mod h.perg]; exact t1)
      (by rw [per_mod h.peru, per_mod h.peru, per_mod h.pere, per_mod h.pere]; exact he)
    rcases mod_step (by omega : 2 ≤ n) i with ⟨a1, a2⟩ | ⟨a1, a2⟩ <;> rcases mod_step (by omega : 2 ≤ n) j with ⟨b1, b2⟩ | ⟨b1, b2⟩ <;> rw [Nat.mod_eq_of_lt hi] at a1 <;> rw [Nat.mod_eq_of_lt hj] at b1 <;> omega
theorem gT_per {n : Nat} {e : Nat → Pt} {g : Nat → Int} (pe : ∀ k, e (k + n) = e k) (pg : ∀ k, g (k + n) = g k) : gT e g n = gT e g 0 := by
  unfold gT
  rw [show n + 1 = 1 + n from by omega, pe 1, show e n = e 0 from by have := pe 0; rwa [Nat.zero_add] at this, show g n = g 0 from by have := pg 0; rwa [Nat.zero_add] at this]
theorem Gc.rots {n : Nat} : (i : Nat) → {u e : Nat → Pt} → {g : Nat → Int} → Gc n u e g → ∃ u' e' g', Gc n u' e' g' ∧ sumF (gT e' g') n = sumF (gT e g) n ∧ sumF g' n = sumF g n ∧ ∀ k, g' k = g (k + i)
  | 0, u, e, g, h => ⟨u, e, g, h, rfl, rfl, fun _ => rfl⟩
  | i + 1, u, e, g, h => by
    obtain ⟨u', e', g', h1, h2, h3, h4⟩ := Gc.rots i h.rot
    have pg : g n = g 0 := by have := h.perg 0; rwa [Nat.zero_add] at this
    exact ⟨u', e', g', h1, by rw [h2]; exact sumF_shift (f := gT e g) (gT_per h.pere h.perg), by rw [h3]; exact sumF_shift pg, fun k => by rw [h4]; congr 1⟩
theorem Gc.units {n : Nat} {u e : Nat → Pt} {g : Nat → Int} (h : Gc n u e g) (h1 : ∀ i, g i = 1) : sumF (gT e g) n = 12 := by
  have ex : ∀ i, e i = ((u (i + 1)).1 - (u i).1, (u (i + 1)).2 - (u i).2) := fun i => by
    rw [h.nxt i, h1 i]
    unfold go
    apply Prod.ext <;> simp <;> omega
  have hc : Ch n u := ⟨h.len, h.peru, fun i => by
      rw [h.nxt i, dP_go, dP_self, h1 i, h.one i]; rfl, fun i j => by
      rw [h.nxt i, dP_go, h1 i]
      have := h.cvx i j
      omega, fun i j hi hj he => h.inj i j 0 0 hi hj (by omega) (by have := h1 i; omega) (by omega) (by have := h1 j; omega) (by rw [go_zero, go_zero]; exact he)⟩
  rw [← hc.twelve]
  refine sumF_congr _ _ n fun k _ => ?_
  unfold gT fT
  rw [h1 k]
  have s0 := hc.step k
  have s1 := hc.step (k + 1)
  rw [show k + 1 + 1 = k + 2 from rfl] at s1
  rw [ex k, ex (k + 1), show k + 1 + 1 = k + 2 from rfl]
  have : dP ((u (k + 1)).1 - (u k).1, (u (k + 1)).2 - (u k).2) ((u (k + 2)).1 - (u (k + 1)).1, (u (k + 2)).2 - (u (k + 1)).2) = dP (u (k + 1)) (u (k + 2)) + dP (u k) (u (k + 1)) - dP (u k) (u (k + 2)) := by
    unfold dP; grind
  rw [this, s0, s1]
  omega
/-- A longer last side is cut after its first step. -/
theorem Gc.split {m : Nat} {u e : Nat → Pt} {g : Nat → Int} (h : Gc (m + 1) u e g) (hg : 2 ≤ g m) : ∃ u' e' g', Gc (m + 2) u' e' g' ∧ sumF (gT e' g') (m + 2) = sumF (gT e g) (m + 1) ∧ sumF g' (m + 2) = sumF g (m + 1) := by
  have l3 := h.len
  have hlt : ∀ k, k % (m + 2) < m + 2 := fun k => Nat.mod_lt _ (by omega)
  have u0 : u (m + 1) = u 0 := by have := h.peru 0; rwa [Nat.zero_add] at this
  have e0 : e (m + 1) = e 0 := by have := h.pere 0; rwa [Nat.zero_add] at this
  have nm := h.nxt m
  rw [u0] at nm
  let U : Nat → Pt := fun k => if k = m + 1 then go (u m) (e m) 1 else u k
  let E : Nat → Pt := fun k => if k = m + 1 then e m else e k
  let G : Nat → Int := fun k => if k = m then 1 else if k = m + 1 then g m - 1 else g k
  have Um : U (m + 1) = go (u m) (e m) 1 := if_pos rfl
  have Em : E (m + 1) = e m := if_pos rfl
  have Gm : G m = 1 := if_pos rfl
  have Gl : G (m + 1) = g m - 1 := (if_neg (by omega)).trans (if_pos rfl)
  have Uk : ∀ k, k ≤ m → U k = u k := fun k hk => if_neg (by omega)
  have Ek : ∀ k, k ≤ m → E k = e k := fun k hk => if_neg (by omega)
  have Gk : ∀ k, k < m → G k = g k := fun k hk => (if_neg (by omega)).trans (if_neg (by omega))
  -- a point that lies on a side of the new chain lies on a side of the old one
  have src : ∀ i s, i < m + 2 → 0 ≤ s → s < G i → ∃ i' s', i' < m + 1 ∧ 0 ≤ s' ∧ s' < g i' ∧ go (U i) (E i) s = go (u i') (e i') s' ∧ ((i = i' ∧ i < m) ∨ (i = m ∧ i' = m ∧ s' = 0) ∨ (i = m + 1 ∧ i' = m ∧ 1 ≤ s')) := by
    intro i s hi h0 h1
    by_cases c1 : i = m + 1
    · subst c1
      rw [Gl] at h1
      exact ⟨m, s + 1, by omega, by omega, by omega, by rw [Um, Em, go_go]; congr 1; omega, .inr (.inr ⟨rfl, rfl, by omega⟩)⟩
    · by_cases c2 : i = m
      · subst c2
        rw [Gm] at h1
        obtain rfl : s = 0 := by omega
        exact ⟨i, 0, by omega, by omega, by omega, by rw [Uk i (by omega), Ek i (by omega)], .inr (.inl ⟨rfl, rfl, rfl⟩)⟩
      · rw [Gk i (by omega)] at h1
        exact ⟨i, s, by omega, h0, h1, by rw [Uk i (by omega), Ek i (by omega)], .inl ⟨rfl, by omega⟩⟩
  have uE : ∀ j i, dP (u j) (E i) ≤ 1 := fun j i => by
    show dP (u j) (if i = m + 1 then e m else e i) ≤ 1
    split
    · exact h.cvx _ _
    · exact h.cvx _ _
  refine ⟨fun k => U (k % (m + 2)), fun k => E (k % (m + 2)), fun k => G (k % (m + 2)), ⟨by omega, fun k => by rw [Nat.add_mod_right], fun k => by rw [Nat.add_mod_right], fun k => by rw [Nat.add_mod_right], fun i => ?_, fun i => ?_, fun i => ?_, fun i j => ?_, fun i j s t hi hj s0 s1 t0 t1 he => ?_⟩, ?_, ?_⟩
  · show 1 ≤ (if i % (m + 2) = m then 1 else if i % (m + 2) = m + 1 then g m - 1 else g (i % (m + 2)))
    split
    · omega
    · split
      · omega
      · exact h.pos _
  · show U ((i + 1) % (m + 2)) = go (U (i % (m + 2))) (E (i % (m + 2))) (G (i % (m + 2)))
    have hl := hlt i
    rcases mod_step (by omega : 2 ≤ m + 2) i with ⟨a1, a2⟩ | ⟨a1, a2⟩
    · rw [a1]
      by_cases c : i % (m + 2) = m
      · rw [c, Um, Uk m (by omega), Ek m (by omega), Gm]
      · rw [Uk _ (by omega), Uk _ (by omega), Ek _ (by omega), Gk _ (by omega)]
        exact h.nxt _
    · rw [a2, show i % (m + 2) = m + 1 from by omega, Um, Em, Gl, go_go, Uk 0 (by omega), nm]
      congr 1; omega
  · show dP (U (i % (m + 2))) (E (i % (m + 2))) = 1
    have hl := hlt i
    by_cases c : i % (m + 2) = m + 1
    · rw [c, Um, Em, go_dP, dP_self, h.one m]; rfl
    · rw [Uk _ (by omega), Ek _ (by omega)]
      exact h.one _
  · show dP (U (j % (m + 2))) (E (i % (m + 2))) ≤ 1
    by_cases c : j % (m + 2) = m + 1
    · rw [c, Um, go_dP]
      have c1 := uE m (i % (m + 2))
      have c2 := uE 0 (i % (m + 2))
      rw [nm, go_dP] at c2
      generalize dP (u m) (E (i % (m + 2))) = x at *
      generalize dP (e m) (E (i % (m + 2))) = y at *
      apply Decidable.byContradiction
      intro hn
      have := Int.mul_nonneg (a := g m - 1) (b := y - 1) (by omega) (by omega)
      have e1 : (g m - 1) * (y - 1) = g m * y - g m - y + 1 := by grind
      by_cases cy : 1 ≤ y
      · omega
      · omega
    · have hl := hlt j
      rw [Uk _ (by omega)]
      exact uE _ _
  · have he : go (U (i % (m + 2))) (E (i % (m + 2))) s = go (U (j % (m + 2))) (E (j % (m + 2))) t := he
    have s1 : s < G (i % (m + 2)) := s1
    have t1 : t < G (j % (m + 2)) := t1
    rw [Nat.mod_eq_of_lt hi] at he s1
    rw [Nat.mod_eq_of_lt hj] at he t1
    obtain ⟨i', s', p1, p2, p3, p4, p5⟩ := src i s hi s0 s1
    obtain ⟨j', t', q1, q2, q3, q4, q5⟩ := src j t hj t0 t1
    rw [p4, q4] at he
    have key := h.inj i' j' s' t' p1 q1 p2 p3 q2 q3 he
    subst key
    have st : s' = t' := by
      have := h.one i'
      have hx := congrArg Prod.fst he
      have hy := congrArg Prod.snd he
      unfold go at hx hy
      simp only at hx hy
      have hx : s' * (e i').1 = t' * (e i').1 := by omega
      have hy : s' * (e i').2 = t' * (e i').2 := by omega
      unfold dP at this
      have e1 : s' = (u i').1 * (s' * (e i').2) - (u i').2 * (s' * (e i').1) := by grind
      have e2 : t' = (u i').1 * (t' * (e i').2) - (u i').2 * (t' * (e i').1) := by grind
      rw [e1, e2, hx, hy]
    omega
  · show sumF (gT (fun k => E (k % (m + 2))) (fun k => G (k % (m + 2)))) m + gT (fun k => E (k % (m + 2))) (fun k => G (k % (m + 2))) m + gT (fun k => E (k % (m + 2))) (fun k => G (k % (m + 2))) (m + 1) = sumF (gT e g) m + gT e g m
    rw [sumF_congr (gT (fun k => E (k % (m + 2))) (fun k => G (k % (m + 2)))) (gT e g) m fun k hk => by
      unfold gT
      simp only
      rw [Nat.mod_eq_of_lt (show k < m + 2 by omega), Nat.mod_eq_of_lt (show k + 1 < m + 2 by omega), Gk k hk, Ek k (by omega), Ek (k + 1) (by omega)]]
    unfold gT
    simp only
    rw [Nat.mod_eq_of_lt (show m < m + 2 by omega), Nat.mod_eq_of_lt (show m + 1 < m + 2 by omega), Nat.mod_self, Gm, Gl, Em, Ek m (by omega), Ek 0 (by omega), dP_self, e0]
    omega
  · show sumF (fun k => G (k % (m + 2))) m + G (m % (m + 2)) + G ((m + 1) % (m + 2)) = sumF g m + g m
    rw [sumF_congr (fun k => G (k % (m + 2))) g m fun k hk => by
      rw [Nat.mod_eq_of_lt (show k < m + 2 by omega), Gk k hk]]
    rw [Nat.mod_eq_of_lt (show m < m + 2 by omega), Nat.mod_eq_of_lt (show m + 1 < m + 2 by omega), Gm, Gl]
    omega
/-- The number twelve of a chain with sides of any length. -/
theorem Gc.twelve : (d n : Nat) → {u e : Nat → Pt} → {g : Nat → Int} → Gc n u e g → sumF g n = n + d → sumF (gT e g) n = 12
  | 0, n, u, e, g, h, hd => by
    have := sumF_le (fun k => g k - 1) n fun k _ => by have := h.pos k; omega
    have e1 := sumF_sub g (fun _ => 1) n
    have e2 : ∀ n, sumF (fun _ => (1 : Int)) n = n := fun n => by
      induction n with
      | zero => rfl
      | succ n ih => simp only [sumF, ih]; omega
    rw [e2] at e1
    refine h.units fun i => ?_
    have h1 := this.2 (i % n) (Nat.mod_lt _ (by have := h.len; omega))
    have h2 := h.pos i
    rw [per_mod h.perg] at h1
    omega
  | d + 1, n, u, e, g, h, hd => by
    by_cases hall : ∀ i, g i = 1
    · exact h.units hall
    · obtain ⟨i, hi⟩ := Classical.not_forall.1 hall
      have h1 := h.pos i
      obtain ⟨m, rfl⟩ : ∃ m, n = m + 1 := ⟨n - 1, by have := h.len; omega⟩
      obtain ⟨u', e', g', a1, a2, a3, a4⟩ := h.rots (i + m * m)
      have eg : g' m = g i := by
        rw [a4, show m + (i + m * m) = i + (m + 1) * m from by grind, per_mul h.perg]
      obtain ⟨u2, e2, g2, b1, b2, b3⟩ := a1.split (by omega)
      rw [← a2, ← b2]
      exact Gc.twelve d (m + 2) b1 (by rw [b3, a3, hd]; omega)
end Go.Proofs.YtgbkkmidloeciaaGreat
