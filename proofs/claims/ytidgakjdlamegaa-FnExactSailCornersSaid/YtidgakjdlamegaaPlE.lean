/-
  Plain: points of cones as sums of rays. No condition.
-/
import Derived.Test.YtidgakjdlamegaaPlT
namespace Go.Proofs.Ytidgakjdlamegaa
open Go Go.Proofs.Ytidgakjdlamegaa.Eng
set_option linter.unusedVariables false
set_option linter.unusedSimpArgs false

/-- Where a point lies: the first pair of neighbors with it between them. -/
def exR (x : List Int) (L : List (List Int)) : Nat → Nat → List Int → List Int
  | 0, _, out => out
  | n + 1, k, out => if 0 ≤ crsL x (L.getD (k + 1) []) ∧ 0 ≤ crsL (L.getD k []) x then (out.set k (crsL x (L.getD (k + 1) []))).set (k + 1) (crsL (L.getD k []) x) else exR x L n (k + 1) out

theorem crsT {a b c d : Int} (ha : Tn a) (hb : Tn b) (hc : Tn c) (hd : Tn d) : s_l7Cross [a, b] [c, d] = some (crsL [a, b] [c, d]) ∧ i_cross [a, b] [c, d] = some (crsL [a, b] [c, d]) :=
  ⟨l7Cross_eq ha hb hc hd, cross_eq ha hb hc hd⟩

/-- The entries are small. -/
theorem exR_small {L : List (List Int)} (h : Chn L) {p q : Int} (hp : -1000 ≤ p ∧ p ≤ 1000) (hq : -1000 ≤ q ∧ q ≤ 1000) : ∀ (n k : Nat) (out : List Int), (∀ z ∈ out, -60000 ≤ z ∧ z ≤ 60000) → k + n + 1 = L.length → ∀ z ∈ exR [p, q] L n k out, -60000 ≤ z ∧ z ≤ 60000 := by
  have m : ∀ {x y : Int}, -1000 ≤ x → x ≤ 1000 → -30 ≤ y → y ≤ 30 → -30000 ≤ x * y ∧ x * y ≤ 30000 := fun {x y} h1 h2 h3 h4 => by
    have := Int.natAbs_mul x y
    have h5 : x.natAbs * y.natAbs ≤ 1000 * 30 := Nat.mul_le_mul (by omega) (by omega)
    omega
  intro n
  induction n with
  | zero => intro k out ho _ z hz; exact ho z hz
  | succ n ih =>
    intro k out ho hk z hz
    simp only [exR] at hz
    split at hz
    · obtain ⟨a, b, _, e1, p1⟩ := h.at (k := k) (by omega)
      obtain ⟨c, d, _, e2, p2⟩ := h.at (k := k + 1) (by omega)
      rw [e1, e2] at hz
      rcases List.mem_or_eq_of_mem_set hz with hz | rfl
      · rcases List.mem_or_eq_of_mem_set hz with hz | rfl
        · exact ho z hz
        · have h1 := m hp.1 hp.2 p2.b1 p2.b2
          have h2 := m hq.1 hq.2 p2.a1 p2.a2
          show -60000 ≤ p * d - q * c ∧ p * d - q * c ≤ 60000
          omega
      · have h1 := m hp.1 hp.2 p1.b1 p1.b2
        have h2 := m hq.1 hq.2 p1.a1 p1.a2
        rw [Int.mul_comm] at h1 h2
        show -60000 ≤ a * q - b * p ∧ a * q - b * p ≤ 60000
        omega
    · exact ih (k + 1) out ho (by omega) z hz

theorem exR_len {L : List (List Int)} {x : List Int} : ∀ (n k : Nat) (out : List Int), (exR x L n k out).length = out.length := by
  intro n
  induction n with
  | zero => intro k out; rfl
  | succ n ih =>
    intro k out
    simp only [exR]
    split
    · simp
    · exact ih _ _

/-- A vector of two entries up to 1000. -/
def vec2 (x : List Int) : Bool := isPt 1000 x

/-- One cone and a vector in, a plain answer out. -/
theorem law_CVP (x : Cn) (y : List Int) (hx : TyOk ConeTy x) (hy : TyOk (.list (.int .i64)) y) {β : Type} (s i : Cn → List Int → Option β) (ne : β → β → Bool) (hne : ∀ b, ne b b = false) (w : Option Bool)
    (hw : w = cond (decide ((y.length : Int) > (1048576 : Int))) (some true) ((w_szCone (x.1, x.2) 1048576).bind fun v1 => cond (decide (v1 < 0)) (some true)
      ((w_toCone (x.1, x.2)).bind fun v2 => (w_toIntS y).bind fun v3 => (s (v2.1, v2.2) v3).bind fun v4 => (w_toCone (x.1, x.2)).bind fun v5 => (w_toIntS y).bind fun v6 => (i (v5.1, v5.2) v6).bind fun v7 => cond (ne v7 v4) (some false)
       ((w_toCone (x.1, x.2)).bind fun v8 => (w_eqCone (v5.1, v5.2) (v8.1, v8.2)).bind fun v9 => cond (!v9) (some false)
       ((w_toIntS y).bind fun v10 => (w_eqIntS v6 v10).bind fun v11 => cond (!v11) (some false) (some true))))))
    (hs : x.1.length ≤ 1048576 → x.2.length ≤ 1048576 → y.length ≤ 1048576 → ∃ r, s x y = some r ∧ i x y = some r) : w = some true := by
  have a1 : x.1.length ≤ lim := hx.1.1
  have a2 : x.2.length ≤ lim := hx.2.1
  rw [hw, szCone_eq a1 a2 (by omega) (by omega)]
  by_cases hyl : (y.length : Int) > 1048576
  · have hd : decide ((y.length : Int) > 1048576) = true := by simpa using hyl
    rw [hd]; rfl
  have hdy : decide ((y.length : Int) > 1048576) = false := by simpa using hyl
  simp only [Option.bind_some, hdy, cond_false]
  by_cases h : (1048576 : Int) < (x.1.length + x.2.length : Nat)
  · rw [if_pos h]; rfl
  · rw [if_neg h]
    have f1 : x.1.length ≤ 1048576 := by omega
    have f2 : x.2.length ≤ 1048576 := by omega
    have f3 : y.length ≤ 1048576 := by omega
    have hd : decide ((1048576 : Int) - (x.1.length + x.2.length : Nat) < 0) = false := by simp; omega
    obtain ⟨r, h1, h2⟩ := hs f1 f2 f3
    simp only [hd, cond_false, toCone_eq (c := (x.1, x.2)) f1 f2, toIntS_eq (xs := y) (by rw [lim_eq]; omega), Option.bind_some, h1, h2, hne, eqCone_eq (c := (x.1, x.2)) (lim_of f1) (lim_of f2), eqIntS_eq (xs := y) (lim_of f3), beq_self_eq_true, Bool.not_true, cond_false]

end Go.Proofs.Ytidgakjdlamegaa
