/-
  Triangles filled with empty triangles: areas, sides, halves. Plain, no condition.
-/
import Derived.Test.YtcpdhjklcongoaaPlEu
import Derived.Test.YtcpdhjklcongoaaPlWt
namespace Go.Proofs.Ytcpdhjklcongoaa
open Go Go.Proofs.Ytcpdhjklcongoaa.Eng
open Hull (Pt tn lx at_ at_some at_mem Pol)
set_option linter.unusedVariables false
set_option linter.unusedSimpArgs false
/-! Two numbers and their divisor. -/
theorem bez_zero (a : Int) : ∃ x y : Int, a * x + 0 * y = (Int.gcd a 0 : Int) := by
  rw [Int.gcd_zero_right]
  by_cases ha : 0 ≤ a
  · exact ⟨1, 0, by omega⟩
  · exact ⟨-1, 0, by omega⟩
theorem bez_ring {a b x y q r g : Int} (e : b * x + r * y = g) (m : b * q + r = a) : a * y + b * (x - q * y) = g := by
  rw [← e, ← m]; grind
theorem bez : (n : Nat) → (a b : Int) → b.natAbs ≤ n → ∃ x y : Int, a * x + b * y = (Int.gcd a b : Int)
  | 0, a, b, h => by
    have : b = 0 := by omega
    subst this
    exact bez_zero a
  | n + 1, a, b, h => by
    by_cases hb : b = 0
    · subst hb; exact bez_zero a
    · obtain ⟨x, y, e⟩ := bez n b (a.tmod b) (by have := tmod_lt (a := a) hb; omega)
      rw [gcd_step] at e
      exact ⟨y, x - a.tdiv b * y, bez_ring e (Int.mul_tdiv_add_tmod a b)⟩
/-! An empty triangle has area one. -/
def Emp (A B C : Pt) : Prop := ∀ q, 0 ≤ tn A B q → 0 ≤ tn B C q → 0 ≤ tn C A q → q = A ∨ q = B ∨ q = C
theorem Emp.cyc {A B C : Pt} (h : Emp A B C) : Emp B C A := fun q h1 h2 h3 => by
  rcases h q h3 h1 h2 with h | h | h
  · exact .inr (.inr h)
  · exact .inl h
  · exact .inr (.inl h)
theorem tn_sum (A B C q : Pt) : tn A B q + tn B C q + tn C A q = tn A B C := by unfold tn; grind
theorem emp_r1 {a b g s t : Int} (h1 : a = g * s) (h2 : b = g * t) : a * t - b * s = 0 := by rw [h1, h2]; grind
theorem emp_r2 {g s t p q : Int} : g * (t * p - s * q) = (g * t) * p - (g * s) * q := by grind
theorem emp_gcd {A B C : Pt} (h : Emp A B C) (hp : 0 < tn A B C) : gcdP A B = 1 := by
  unfold gcdP
  generalize hg : Int.gcd (B.1 - A.1) (B.2 - A.2) = g
  obtain ⟨s, hs⟩ : (g : Int) ∣ B.1 - A.1 := by rw [← hg]; exact Int.gcd_dvd_left ..
  obtain ⟨t, ht⟩ : (g : Int) ∣ B.2 - A.2 := by rw [← hg]; exact Int.gcd_dvd_right ..
  have e1 : tn A B (A.1 + s, A.2 + t) = 0 := by
    have := emp_r1 hs ht
    unfold tn
    simp only
    rw [show A.2 + t - A.2 = t from by omega, show A.1 + s - A.1 = s from by omega]
    exact this
  have e2 : (g : Int) * tn C A (A.1 + s, A.2 + t) = tn A B C := by
    have h1 : tn C A (A.1 + s, A.2 + t) = t * (A.1 - C.1) - s * (A.2 - C.2) := by unfold tn; grind
    rw [h1, emp_r2, ← hs, ← ht]
    unfold tn; grind
  have e3 := tn_sum A B C (A.1 + s, A.2 + t)
  have hg0 : g ≠ 0 := fun e => by rw [e] at e2; simp at e2; omega
  have hX : 0 < tn C A (A.1 + s, A.2 + t) := by
    rcases Int.lt_trichotomy 0 (tn C A (A.1 + s, A.2 + t)) with h1 | h1 | h1
    · exact h1
    · rw [← h1] at e2; simp at e2; omega
    · have := Int.mul_neg_of_pos_of_neg (show (0 : Int) < (g : Int) by omega) h1; omega
  have hX2 : tn C A (A.1 + s, A.2 + t) ≤ tn A B C := by
    have := Int.mul_le_mul_of_nonneg_right (show (1 : Int) ≤ (g : Int) by omega) (Int.le_of_lt hX)
    omega
  rcases h (A.1 + s, A.2 + t) (by omega) (by omega) (by omega) with h1 | h1 | h1
  · have a1 : A.1 + s = A.1 := congrArg Prod.fst h1
    have a2 : A.2 + t = A.2 := congrArg Prod.snd h1
    have s0 : s = 0 := by omega
    have t0 : t = 0 := by omega
    rw [s0] at hs; rw [t0] at ht
    unfold tn at hp
    rw [hs, ht] at hp
    simp at hp
  · have a1 : A.1 + s = B.1 := congrArg Prod.fst h1
    have a2 : A.2 + t = B.2 := congrArg Prod.snd h1
    rw [h1] at e2
    rw [Hull.tn_cyc B C A, Hull.tn_cyc A B C] at e2
    have : tn A B C * ((g : Int) - 1) = 0 := by rw [Int.mul_sub, Int.mul_one, Int.mul_comm]; omega
    rcases Int.mul_eq_zero.1 this with h2 | h2
    · omega
    · omega
  · rw [h1] at e1; omega
theorem emp_r3 {a b c d x y k s : Int} (hk : -y * d - x * c + k * (a * d - b * c) = s) : (-y + k * a) * d - (x + k * b) * c = s := by rw [← hk]; grind
theorem emp_one {A B C : Pt} (h : Emp A B C) (hp : 0 < tn A B C) : tn A B C = 1 := by
  have hg : ((Int.gcd (B.1 - A.1) (B.2 - A.2) : Nat) : Int) = 1 := emp_gcd h hp
  obtain ⟨x, y, e⟩ := bez _ (B.1 - A.1) (B.2 - A.2) (Nat.le_refl _)
  rw [hg] at e
  apply Classical.byContradiction
  intro hne
  obtain ⟨k, s, hs0, hs1, hk⟩ : ∃ k s : Int, 0 ≤ s ∧ s < tn A B C ∧ -y * (C.2 - A.2) - x * (C.1 - A.1) + k * tn A B C = s := by
    refine ⟨-((-y * (C.2 - A.2) - x * (C.1 - A.1)) / tn A B C), (-y * (C.2 - A.2) - x * (C.1 - A.1)) % tn A B C, Int.emod_nonneg _ (by omega), Int.emod_lt_of_pos _ hp, ?_⟩
    have := Int.emod_add_mul_ediv (-y * (C.2 - A.2) - x * (C.1 - A.1)) (tn A B C)
    generalize -y * (C.2 - A.2) - x * (C.1 - A.1) = m at this ⊢
    rw [Int.neg_mul, Int.mul_comm (m / _) (tn A B C)]
    omega
  have q1 : tn A B (A.1 + (-y + k * (B.1 - A.1)), A.2 + (x + k * (B.2 - A.2))) = 1 := by
    rw [← e]; unfold tn; grind
  have q2 : tn C A (A.1 + (-y + k * (B.1 - A.1)), A.2 + (x + k * (B.2 - A.2))) = s := by
    have := emp_r3 (a := B.1 - A.1) (b := B.2 - A.2) (c := C.1 - A.1) (d := C.2 - A.2) (x := x) (y := y) (k := k) (s := s) (by rw [← hk]; unfold tn; rfl)
    rw [← this]
    generalize -y + k * (B.1 - A.1) = m
    generalize x + k * (B.2 - A.2) = n
    unfold tn; grind
  have q3 := tn_sum A B C (A.1 + (-y + k * (B.1 - A.1)), A.2 + (x + k * (B.2 - A.2)))
  have z1 : tn A B A = 0 := by unfold tn; grind
  have z2 : tn A B B = 0 := by unfold tn; grind
  rcases h (A.1 + (-y + k * (B.1 - A.1)), A.2 + (x + k * (B.2 - A.2))) (by omega) (by omega) (by omega) with h1 | h1 | h1
  · rw [h1] at q1; omega
  · rw [h1] at q1; omega
  · rw [h1] at q1; exact hne q1
/-! Sides cut at their whole points. -/
def stp (A u : Pt) (k : Nat) : Pt := (A.1 + (k : Int) * u.1, A.2 + (k : Int) * u.2)
def segU (A u : Pt) : Nat → List (Pt × Pt)
  | 0 => []
  | g + 1 => (A, stp A u 1) :: segU (stp A u 1) u g
def seg (A B : Pt) : List (Pt × Pt) :=
  segU A ((B.1 - A.1) / (Int.gcd (B.1 - A.1) (B.2 - A.2) : Int), (B.2 - A.2) / (Int.gcd (B.1 - A.1) (B.2 - A.2) : Int)) (Int.gcd (B.1 - A.1) (B.2 - A.2))
def fl (e : Pt × Pt) : Pt × Pt := (e.2, e.1)
def ngv (u : Pt) : Pt := (-u.1, -u.2)
theorem fl_fl (e : Pt × Pt) : fl (fl e) = e := rfl
theorem stp_stp (A u : Pt) (i j : Nat) : stp (stp A u i) u j = stp A u (i + j) := by
  unfold stp
  simp only
  refine Prod.ext ?_ ?_
  · simp only; rw [Int.natCast_add, Int.add_mul]; omega
  · simp only; rw [Int.natCast_add, Int.add_mul]; omega
theorem stp_zero (A u : Pt) : stp A u 0 = A := by unfold stp; simp
theorem stp_back (A u : Pt) (i j : Nat) : stp (stp A u (i + j)) (ngv u) j = stp A u i := by
  unfold stp ngv
  refine Prod.ext ?_ ?_
  · simp only; rw [Int.natCast_add, Int.add_mul, Int.mul_neg]; omega
  · simp only; rw [Int.natCast_add, Int.add_mul, Int.mul_neg]; omega
theorem segU_len (u : Pt) : (g : Nat) → (A : Pt) → (segU A u g).length = g
  | 0, _ => rfl
  | g + 1, A => by simp only [segU, List.length_cons]; rw [segU_len]
theorem segU_add (u : Pt) : (i j : Nat) → (A : Pt) → segU A u (i + j) = segU A u i ++ segU (stp A u i) u j
  | 0, j, A => by rw [Nat.zero_add, stp_zero]; rfl
  | i + 1, j, A => by
    rw [show i + 1 + j = (i + j) + 1 from by omega]
    simp only [segU, List.cons_append]
    rw [segU_add u i j, stp_stp, Nat.add_comm 1 i]
theorem segU_flip (u : Pt) : (g : Nat) → (A : Pt) → segU (stp A u g) (ngv u) g = ((segU A u g).map fl).reverse
  | 0, A => rfl
  | g + 1, A => by
    have e1 : segU A u (g + 1) = segU A u g ++ segU (stp A u g) u 1 := segU_add u g 1 A
    rw [e1]
    have e2 : segU (stp A u (g + 1)) (ngv u) (g + 1) = (stp A u (g + 1), stp (stp A u (g + 1)) (ngv u) 1) :: segU (stp (stp A u (g + 1)) (ngv u) 1) (ngv u) g := rfl
    rw [e2, stp_back, segU_flip u g A]
    simp only [segU, List.map_append, List.map_cons, List.map_nil, List.reverse_append, List.reverse_cons, List.reverse_nil, List.nil_append, List.cons_append, stp_stp]
    rfl
theorem mul_div_nat {g : Nat} (hg : g ≠ 0) (a : Int) : (g : Int) * a / (g : Int) = a := Int.mul_ediv_cancel_left a (by omega)
theorem seg_of {A u : Pt} {g : Nat} (hu : Int.gcd u.1 u.2 = 1) : seg A (stp A u g) = segU A u g := by
  have e1 : (stp A u g).1 - A.1 = (g : Int) * u.1 := by unfold stp; simp only; omega
  have e2 : (stp A u g).2 - A.2 = (g : Int) * u.2 := by unfold stp; simp only; omega
  have e3 : Int.gcd ((g : Int) * u.1) ((g : Int) * u.2) = g := by rw [Int.gcd_mul_left, hu]; simp
  unfold seg
  rw [e1, e2, e3]
  by_cases hg : g = 0
  · subst hg; rfl
  · rw [mul_div_nat hg, mul_div_nat hg]
/-- A side's least step. -/
theorem seg_step (A B : Pt) (h : A ≠ B) : ∃ (u : Pt) (g : Nat), Int.gcd u.1 u.2 = 1 ∧ B = stp A u g ∧ (g : Int) = gcdP A B ∧ 0 < g ∧ ∃ x y : Int, u.1 * x + u.2 * y = 1 := by
  obtain ⟨x, y, e⟩ := bez _ (B.1 - A.1) (B.2 - A.2) (Nat.le_refl _)
  unfold gcdP
  generalize hg : Int.gcd (B.1 - A.1) (B.2 - A.2) = g at e
  obtain ⟨s, hs⟩ : (g : Int) ∣ B.1 - A.1 := by rw [← hg]; exact Int.gcd_dvd_left ..
  obtain ⟨t, ht⟩ : (g : Int) ∣ B.2 - A.2 := by rw [← hg]; exact Int.gcd_dvd_right ..
  have hg0 : 0 < g := by
    rcases Nat.eq_zero_or_pos g with h0 | h0
    · rw [h0] at hs ht
      simp only [Int.ofNat_zero, Int.zero_mul] at hs ht
      exact absurd (Prod.ext (by omega) (by omega)) h
    · exact h0
  have e1 : s * x + t * y = 1 := by
    rw [hs, ht] at e
    have : (g : Int) * (s * x + t * y) = (g : Int) * 1 := by rw [Int.mul_add, ← Int.mul_assoc, ← Int.mul_assoc, e, Int.mul_one]
    exact Int.eq_of_mul_eq_mul_left (by omega) this
  refine ⟨(s, t), g, ?_, ?_, rfl, hg0, x, y, e1⟩
  · have d1 : ((Int.gcd s t : Nat) : Int) ∣ s := Int.gcd_dvd_left ..
    have d2 : ((Int.gcd s t : Nat) : Int) ∣ t := Int.gcd_dvd_right ..
    have d3 : ((Int.gcd s t : Nat) : Int) ∣ 1 := by
      rw [← e1]; exact Int.dvd_add (Int.dvd_trans d1 (Int.dvd_mul_right ..)) (Int.dvd_trans d2 (Int.dvd_mul_right ..))
    have := Int.eq_one_of_dvd_one (by omega) d3
    simp only
    omega
  · unfold stp
    exact Prod.ext (by simp only; omega) (by simp only; omega)
theorem seg_same (A : Pt) : seg A A = [] := by
  unfold seg
  rw [Int.sub_self, Int.sub_self]
  rfl
theorem seg_len (A B : Pt) : ((seg A B).length : Int) = gcdP A B := by
  unfold seg
  rw [segU_len]
  rfl
theorem seg_flip (A B : Pt) : seg B A = ((seg A B).map fl).reverse := by
  by_cases h : A = B
  · subst h; rw [seg_same]; rfl
  · obtain ⟨u, g, h1, h2, _⟩ := seg_step A B h
    have e : A = stp B (ngv u) g := by
      rw [h2]
      have := stp_back A u 0 g
      rw [Nat.zero_add, stp_zero] at this
      exact this.symm
    have s1 : seg A B = segU A u g := by rw [h2]; exact seg_of h1
    have s2 : seg B A = segU B (ngv u) g := by
      conv => lhs; rw [e]
      exact seg_of (by unfold ngv; simp only [Int.neg_gcd, Int.gcd_neg]; exact h1)
    rw [s1, s2, ← segU_flip, ← h2]
theorem count_fl (L : List (Pt × Pt)) (e : Pt × Pt) : (L.map fl).count e = L.count (fl e) := by
  induction L with
  | nil => rfl
  | cons a L ih =>
    simp only [List.map_cons, List.count_cons, ih]
    congr 1
    by_cases h : a = fl e
    · subst h; rw [fl_fl]; simp
    · have : fl a ≠ e := fun h' => h (by rw [← h', fl_fl])
      simp [h, this]
/-- How often a side goes along a step, less how often against it. -/
def dl (e : Pt × Pt) (A B : Pt) : Int := ((seg A B).count e : Int) - ((seg A B).count (fl e) : Int)
theorem dl_flip (e : Pt × Pt) (A B : Pt) : dl e B A = - dl e A B := by
  unfold dl
  rw [seg_flip A B, List.count_reverse, List.count_reverse, count_fl, count_fl, fl_fl]
  omega
theorem dl_at {e : Pt × Pt} {A u : Pt} (hu : Int.gcd u.1 u.2 = 1) {i j : Nat} : dl e A (stp A u (i + j)) = dl e A (stp A u i) + dl e (stp A u i) (stp A u (i + j)) := by
  unfold dl
  rw [← stp_stp A u i j, seg_of (A := stp A u i) hu, stp_stp, seg_of hu, seg_of hu, segU_add, List.count_append, List.count_append]
  omega
theorem on_r1 {a b x y p q : Int} (e : a * x + b * y = 1) (h : a * q = b * p) : (p * x + q * y) * a = p ∧ (p * x + q * y) * b = q := by
  constructor
  · have : (p * x + q * y) * a = p * (a * x) + (a * q) * y := by grind
    rw [this, h]
    have : p * (a * x) + b * p * y = p * (a * x + b * y) := by grind
    rw [this, e, Int.mul_one]
  · have : (p * x + q * y) * b = (b * p) * x + q * (b * y) := by grind
    rw [this, ← h]
    have : a * q * x + q * (b * y) = q * (a * x + b * y) := by grind
    rw [this, e, Int.mul_one]
theorem on_r2 {A B C u x : Pt} {g j : Int} (hB1 : B.1 - A.1 = g * u.1) (hB2 : B.2 - A.2 = g * u.2) (hx1 : x.1 - A.1 = j * u.1) (hx2 : x.2 - A.2 = j * u.2) :
    tn A B C = g * (u.1 * (C.2 - A.2) - u.2 * (C.1 - A.1)) ∧ tn C A x = j * (u.1 * (C.2 - A.2) - u.2 * (C.1 - A.1)) := by
  constructor
  · unfold tn; rw [hB1, hB2]; grind
  · have e : tn C A x = (x.1 - A.1) * (C.2 - A.2) - (x.2 - A.2) * (C.1 - A.1) := by unfold tn; grind
    rw [e, hx1, hx2]; grind
theorem on_r3 {u w x : Int × Int} {g : Int} (h : g * u.1 * w.2 = g * u.2 * w.1) (hg : g ≠ 0) : u.1 * w.2 = u.2 * w.1 :=
  Int.eq_of_mul_eq_mul_left hg (by rw [← Int.mul_assoc, ← Int.mul_assoc]; exact h)
/-- A point on a side cuts it. -/
theorem dl_cut (e : Pt × Pt) {A B C x : Pt} (hp : 0 < tn A B C) (h0 : tn x A B = 0) (h1 : 0 ≤ tn B C x) (h2 : 0 ≤ tn C A x) : dl e A B = dl e A x + dl e x B := by
  have hAB : A ≠ B := fun h => by subst h; unfold tn at hp; simp at hp
  obtain ⟨u, g, hu, hB, _, hg, p, q, hpq⟩ := seg_step A B hAB
  have hB1 : B.1 - A.1 = (g : Int) * u.1 := by rw [hB]; unfold stp; simp only; omega
  have hB2 : B.2 - A.2 = (g : Int) * u.2 := by rw [hB]; unfold stp; simp only; omega
  have hpar : u.1 * (x.2 - A.2) = u.2 * (x.1 - A.1) := by
    refine on_r3 (u := u) (w := (x.1 - A.1, x.2 - A.2)) (x := A) (g := (g : Int)) ?_ (by omega)
    rw [← hB1, ← hB2]
    have : tn A B x = 0 := by rw [Hull.tn_cyc x A B]; exact h0
    unfold tn at this
    simp only
    omega
  obtain ⟨j1, j2⟩ := on_r1 hpq hpar
  generalize (x.1 - A.1) * p + (x.2 - A.2) * q = j at j1 j2
  obtain ⟨r1, r2⟩ := on_r2 (C := C) hB1 hB2 j1.symm j2.symm
  have s := tn_sum A B C x
  have z : tn A B x = 0 := by rw [Hull.tn_cyc x A B]; exact h0
  generalize u.1 * (C.2 - A.2) - u.2 * (C.1 - A.1) = D at r1 r2
  have hD : 0 < D := by
    rcases Int.lt_trichotomy 0 D with h | h | h
    · exact h
    · rw [← h] at r1; simp at r1; omega
    · have := Int.mul_neg_of_pos_of_neg (show (0 : Int) < (g : Int) by omega) h; omega
  have hj0 : 0 ≤ j := by
    rcases Int.lt_or_le j 0 with h | h
    · have := Int.mul_neg_of_neg_of_pos h hD; omega
    · exact h
  have hj1 : j ≤ g := by
    rcases Int.lt_or_le (g : Int) j with h | h
    · have := Int.mul_lt_mul_of_pos_right h hD; omega
    · exact h
  obtain ⟨i, rfl⟩ := Int.eq_ofNat_of_zero_le hj0
  have hx : x = stp A u i := by unfold stp; exact Prod.ext (by simp only; omega) (by simp only; omega)
  obtain ⟨d, rfl⟩ : ∃ d, g = i + d := ⟨g - i, by omega⟩
  rw [hB, hx]
  exact dl_at hu
theorem dl_one {A B : Pt} (h : gcdP A B = 1) (e : Pt × Pt) : dl e A B = (([(A, B)] : List (Pt × Pt)).count e : Int) - (([(A, B)] : List (Pt × Pt)).count (fl e) : Int) := by
  have hAB : A ≠ B := fun h' => by subst h'; unfold gcdP at h; rw [Int.sub_self, Int.sub_self] at h; simp at h
  obtain ⟨u, g, hu, hB, hg, _⟩ := seg_step A B hAB
  have g1 : g = 1 := by omega
  subst g1
  have : seg A B = [(A, B)] := by
    conv => lhs; rw [hB, seg_of hu]
    rw [hB]; rfl
  unfold dl
  rw [this]
end Go.Proofs.Ytcpdhjklcongoaa
