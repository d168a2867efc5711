/-
  Plain: drawn cones. No condition.
-/
import Derived.Test.YtmdagdopfgiaiaaPlM
import Derived.Test.YtmdagdopfgiaiaaPlCu
namespace Go.Proofs.Ytmdagdopfgiaiaa
open Go Go.Proofs.Ytmdagdopfgiaiaa.Eng
set_option linter.unusedVariables false
set_option linter.unusedSimpArgs false
theorem l2Prime_two {v : List Int} (hl : v.length = 2) (hv : ∀ x ∈ v, -127 ≤ x ∧ x ≤ 255) (hg : gcdL v ≠ 0) : ∃ z, s_l2Prime v = some z ∧ z.length = 2 := by
  obtain ⟨a, b, rfl⟩ := two_of hl
  have hsm : ∀ x ∈ [a, b], Sm x := fun x hx => by have := hv x hx; unfold Sm; omega
  have ha := hv a (by simp)
  have hb := hv b (by simp)
  have hpos : 0 ≤ gcdL [a, b] := by simp [gcdL]
  have hle : gcdL [a, b] ≤ 4611686018427387904 := by
    have : gcdL [a, b] = (Int.gcd (Int.gcd 0 a : Int) b : Int) := rfl
    have h2 := gcd_sm (a := (Int.gcd 0 a : Int)) (b := b) (gcd_sm (by unfold Sm; omega) (hsm a (by simp))) (hsm b (by simp))
    unfold Sm at h2
    omega
  have hm : s_l1Max (gcdL [a, b]) 1 = some (gcdL [a, b]) := by
    unfold s_l1Max
    by_cases h : gcdL [a, b] > 1
    · rw [show decide (gcdL [a, b] > 1) = true from by simpa using h]; rfl
    · rw [show decide (gcdL [a, b] > 1) = false from by simpa using h]
      have : gcdL [a, b] = 1 := by omega
      rw [this]; rfl
  have hq : ∀ x : Int, ∃ z, quoI .i64 x (gcdL [a, b]) = some z := fun x => by
    unfold quoI
    rw [if_neg hg]
    exact ⟨_, rfl⟩
  obtain ⟨z1, hz1⟩ := hq a
  obtain ⟨z2, hz2⟩ := hq b
  refine ⟨[z1, z2], ?_, rfl⟩
  unfold s_l2Prime
  rw [l2All_eq (by simp [lim_eq]) hsm]
  simp only [Option.bind_some]
  have a1 : ∀ x : Int, appD 8 ([] : List Int) [x] = some [x] := fun x => by rw [appD_some (by simp [lim_eq]) (by simp [lim_eq])]; rfl
  have a2 : appD 8 [z1] [z2] = some [z1, z2] := by rw [appD_some (by simp [lim_eq]) (by simp [lim_eq])]; rfl
  have i0 : idx [a, b] 0 = some a := rfl
  have i1 : idx [a, b] 1 = some b := rfl
  have w1 : IntKind.i64.wrap ((0 : Int) + 1) = 1 := rfl
  have w2 : IntKind.i64.wrap ((1 : Int) + 1) = 2 := rfl
  rw [iter_next (s' := ([z1], 1)) (by
    unfold s_l2Prime_s4
    simp only [show decide ((0 : Int) < (([a, b] : List Int).length : Int)) = true from rfl, cond_true, i0, Option.bind_some, hm, hz1, a1, w1])]
  rw [iter_next (s' := ([z1, z2], 2)) (by
    unfold s_l2Prime_s4
    simp only [show decide ((1 : Int) < (([a, b] : List Int).length : Int)) = true from rfl, cond_true, i1, Option.bind_some, hm, hz2, a2, w2])]
  rw [iter_end (y := [z1, z2]) (by
    unfold s_l2Prime_s4
    simp only [show decide ((2 : Int) < (([a, b] : List Int).length : Int)) = false from rfl, cond_false])]
  rfl
theorem l9Draw_ok {s : Cur} (h : CurOk s) : ∃ (x : List Int × List Int) (s' : Cur), s_l9Draw s = some (x, (s', ())) ∧ CurOk s' ∧ x.1.length = 2 ∧ x.2.length = 2 := by
  obtain ⟨y, e, hy⟩ := iter_run (step := s_l9Draw_s2) (fun t => CurOk t.1 ∧ 0 ≤ t.2.2 ∧ t.2.2 ≤ 6) (fun t => (6 - t.2.2).toNat) (fun _ y => match y with
      | .inl a => CurOk a.1
      | .inr b => CurOk b.1 ∧ b.2.1.length = 2 ∧ b.2.2.length = 2) (fun t ht => by
    obtain ⟨c, x, k⟩ := t
    obtain ⟨g1, g2, g3⟩ := ht
    simp only at g1 g2 g3
    unfold s_l9Draw_s2
    simp only
    by_cases hk : k < 6
    · rw [show decide (k < 6) = true from by simpa using hk, cond_true]
      obtain ⟨u, c1, q1, q2, q3, q4⟩ := draw_ok g1 (n := 2) (size := 6) (by omega) (by omega) (by omega) (by omega)
      have q1 : s_l2Draw (c.1, c.2.1, c.2.2) 2 6 = some (u, (c1, ())) := q1
      obtain ⟨v, c2, r1, r2, r3, r4⟩ := draw_ok q2 (n := 2) (size := 6) (by omega) (by omega) (by omega) (by omega)
      have r1 : s_l2Draw (c1.1, c1.2.1, c1.2.2) 2 6 = some (v, (c2, ())) := r1
      have q3 : u.length = 2 := q3
      have r3 : v.length = 2 := r3
      have hu : s_l2All u = some (gcdL u) := l2All_eq (by rw [lim_eq]; omega) fun x hx => by have := q4 x hx; unfold Sm; omega
      have hv : s_l2All v = some (gcdL v) := l2All_eq (by rw [lim_eq]; omega) fun x hx => by have := r4 x hx; unfold Sm; omega
      have wk : IntKind.i64.wrap (k + 1) = k + 1 := wrap_id (by omega) (by omega)
      simp only [q1, r1, hu, hv, Option.bind_some, wk]
      have go : ∀ z : List Int × List Int, ((∃ y, (some (.inl ((c2.1, (c2.2.1, c2.2.2)), (z, k + 1))) : Option ((Cur × (List Int × List Int) × Int) ⊕ ((Cur × List Int × List Int) ⊕ (Cur × List Int × List Int)))) = some (.inr y) ∧ (match y with
            | .inl a => CurOk a.1
            | .inr b => CurOk b.1 ∧ b.2.1.length = 2 ∧ b.2.2.length = 2)) ∨ ∃ s', (some (.inl ((c2.1, (c2.2.1, c2.2.2)), (z, k + 1))) : Option ((Cur × (List Int × List Int) × Int) ⊕ ((Cur × List Int × List Int) ⊕ (Cur × List Int × List Int)))) = some (.inl s') ∧ (CurOk s'.1 ∧ 0 ≤ s'.2.2 ∧ s'.2.2 ≤ 6) ∧ (6 - s'.2.2).toNat < (6 - k).toNat ∧ ∀ y : ((Cur × List Int × List Int) ⊕ (Cur × List Int × List Int)), (match y with
            | .inl a => CurOk a.1
            | .inr b => CurOk b.1 ∧ b.2.1.length = 2 ∧ b.2.2.length = 2) → (match y with
            | .inl a => CurOk a.1
            | .inr b => CurOk b.1 ∧ b.2.1.length = 2 ∧ b.2.2.length = 2)) := fun z => .inr ⟨_, rfl, ⟨r2, by simp only; omega, by simp only; omega⟩, by simp only; omega, fun _ h => h⟩
      by_cases hgu : gcdL u = 0
      · rw [show (gcdL u == 0) = true from by simpa using hgu, cond_true]
        exact go x
      · rw [show (gcdL u == 0) = false from by simpa using hgu, cond_false]
        by_cases hgv : gcdL v = 0
        · rw [show (gcdL v == 0) = true from by simpa using hgv, cond_true]
          exact go x
        · rw [show (gcdL v == 0) = false from by simpa using hgv, cond_false]
          obtain ⟨u', hu1, hu2⟩ := l2Prime_two q3 q4 hgu
          obtain ⟨v', hv1, hv2⟩ := l2Prime_two r3 r4 hgv
          obtain ⟨a, b, rfl⟩ := two_of hu2
          obtain ⟨p, q, rfl⟩ := two_of hv2
          have hcr : ∃ z, s_l7Cross [a, b] [p, q] = some z := ⟨_, rfl⟩
          obtain ⟨z, hz⟩ := hcr
          have hic : s_IsCone ([a, b], [p, q]) = some (isCn ([a, b], [p, q])) := s_IsCone_eq (c := ([a, b], [p, q])) (show 2 ≤ lim by decide) (show 2 ≤ lim by decide)
          simp only [hu1, hv1, hz, hic, Option.bind_some]
          cases h1 : decide (z < 0) with
          | true => exact .inl ⟨_, rfl, r2, rfl, rfl⟩
          | false =>
            simp only [cond_false]
            cases h2 : isCn ([a, b], [p, q]) with
            | true => exact .inl ⟨_, rfl, r2, rfl, rfl⟩
            | false => exact go x
    · left
      rw [show decide (k < 6) = false from by simpa using hk, cond_false]
      exact ⟨_, rfl, g1⟩) (s, (([], []), 0)) ⟨h, by simp, by simp⟩
  unfold s_l9Draw
  have e : iter (s_l9Draw_s2) ((s.1, (s.2.1, s.2.2)), ((([] : List Int), ([] : List Int)), (0 : Int))) = some y := e
  rw [e]
  simp only [Option.bind_some]
  cases y with
  | inl a => exact ⟨_, _, rfl, hy, rfl, rfl⟩
  | inr b => exact ⟨_, _, rfl, hy.1, hy.2.1, hy.2.2⟩
theorem l9Bent_ok {s : Cur} (h : CurOk s) : ∃ (x : List Int × List Int) (s' : Cur), s_l9Bent s = some (x, (s', ())) ∧ CurOk s' ∧ x.1.length ≤ 3 ∧ x.2.length ≤ 3 := by
  obtain ⟨x, s1, h1, h2, h3, h4⟩ := l9Draw_ok h
  obtain ⟨n, s2, g1, g2, _⟩ := below_ok h2 (n := 12) (by omega)
  have h1 : s_l9Draw (s.1, s.2.1, s.2.2) = some (x, (s1, ())) := h1
  have g1 : s_l1Below (s1.1, s1.2.1, s1.2.2) 12 = some (n, (s2, ())) := g1
  unfold s_l9Bent
  rw [h1]
  simp only [Option.bind_some, g1]
  cases c0 : (n == 0) with
  | true =>
    simp only [cond_true]
    obtain ⟨b, s3, k1, k2⟩ := once_ok g2 (n := 3) (by omega)
    have k1 : s_l1Once (s2.1, s2.2.1, s2.2.2) 3 = some (b, (s3, ())) := k1
    obtain ⟨z, hz, z0, z1⟩ := bit_ok b
    have w : IntKind.i64.wrap (2 + z) = 2 + z := wrap_id (by omega) (by omega)
    obtain ⟨v, s4, m1, m2, m3, _⟩ := draw_ok k2 (n := 2 + z) (size := 4) (by omega) (by omega) (by omega) (by omega)
    have m1 : s_l2Draw (s3.1, s3.2.1, s3.2.2) (2 + z) 4 = some (v, (s4, ())) := m1
    simp only [k1, hz, w, m1, Option.bind_some]
    exact ⟨_, _, rfl, m2, by simp only; omega, by simp only; omega⟩
  | false =>
    simp only [cond_false]
    cases c1 : (n == 1) with
    | true => exact ⟨_, _, rfl, g2, by simp only; omega, by simp only; omega⟩
    | false =>
      simp only [cond_false]
      cases c2 : (n == 2) with
      | true =>
        simp only [cond_true]
        obtain ⟨z, s3, k1, k2, _⟩ := pickInt_ok g2 (l := [30, 31, -31]) (by simp) (by simp)
        have k1 : s_l1PickInt (s2.1, s2.2.1, s2.2.2) [30, 31, -31] = some (z, (s3, ())) := k1
        simp only [k1, Option.bind_some]
        exact ⟨_, _, rfl, k2, by simp only; omega, by simp⟩
      | false => exact ⟨_, _, rfl, g2, by simp only; omega, by simp only; omega⟩
end Go.Proofs.Ytmdagdopfgiaiaa
