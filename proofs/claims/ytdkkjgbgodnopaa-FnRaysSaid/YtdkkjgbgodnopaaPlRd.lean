/-
  Plain: the law FnRays. No condition.
-/
import Derived.Test.YtdkkjgbgodnopaaPlRc
namespace Go.Proofs.Ytdkkjgbgodnopaa
open Go Go.Proofs.Ytdkkjgbgodnopaa.Eng
set_option linter.unusedVariables false
set_option linter.unusedSimpArgs false

/-! A dual cone's dual. -/

theorem dual_full {c : Cn} (k1 : c.1.length ≤ lim) (k2 : c.2.length ≤ lim) : ∃ (e : List Int × List Int) (t : Bool), i_DualCone c = some (e, t) ∧ s_DualCone c = some (e, t) ∧ e.1.length ≤ 2 ∧ e.2.length ≤ 2 ∧
    (t = true → i_IsCone (e.1, e.2) = some true ∧ i_DualCone (e.1, e.2) = some (c, true)) := by
  have e : s_DualCone c = i_DualCone c := by
    simp only [s_DualCone, i_DualCone, s_IsCone_eq (c := (c.1, c.2)) k1 k2, i_IsCone_eq (c := (c.1, c.2)) k1 k2]
  rw [e]
  cases hc : isCn c with
  | false =>
    have hc' : isCn (c.1, c.2) = false := hc
    simp only [i_DualCone, i_IsCone_eq (c := (c.1, c.2)) k1 k2, Option.bind_some, hc']
    exact ⟨_, _, rfl, rfl, by simp, by simp, fun h => by cases h⟩
  | true =>
    obtain ⟨a, b, x, y, rfl, hu, hv, hD⟩ := isCn_pv hc
    have a1 := hu.a1; have a2 := hu.a2; have b1 := hu.b1; have b2 := hu.b2
    have c1 := hv.a1; have c2 := hv.a2; have d1 := hv.b1; have d2 := hv.b2
    have one : ∀ (p q r s : Int), isCn ([p, q], [r, s]) = true → -30 ≤ q → q ≤ 30 → -30 ≤ r → r ≤ 30 → i_DualCone ([p, q], [r, s]) = some (([s, -r], [-q, p]), true) := fun p q r s h q1 q2 r1 r2 => by
      have l2 : ∀ m n : Int, ([m, n] : List Int).length ≤ lim := fun m n => by show 2 ≤ lim; decide
      simp only [i_DualCone, i_IsCone_eq (c := ([p, q], [r, s])) (l2 _ _) (l2 _ _), h, Option.bind_some, Bool.not_true, cond_false]
      show some (([s, IntKind.i64.wrap (0 - r)], [IntKind.i64.wrap (0 - q), p]), true) = _
      rw [wrap_id (x := 0 - r) (by omega) (by omega), wrap_id (x := 0 - q) (by omega) (by omega), Int.zero_sub, Int.zero_sub]
    have he : isCn ([y, -x], [-b, a]) = true := by
      simp only [isCn, Bool.and_eq_true, beq_iff_eq, decide_eq_true_eq]
      refine ⟨⟨⟨⟨isPt_iff.2 ⟨_, _, rfl, by omega, by omega, by omega, by omega⟩, isPt_iff.2 ⟨_, _, rfl, by omega, by omega, by omega, by omega⟩⟩, ?_⟩, ?_⟩, ?_⟩
      · have := hv.g
        rw [gcdL_two, Int.gcd_neg, Int.gcd_comm]; omega
      · have := hu.g
        rw [gcdL_two, Int.neg_gcd, Int.gcd_comm]; omega
      · have e : crsL [y, -x] [-b, a] = crs a b x y := by show y * a - -x * -b = a * y - b * x; grind
        rw [e]; exact hD
    refine ⟨_, _, one a b x y hc b1 b2 c1 c2, one a b x y hc b1 b2 c1 c2, by simp, by simp, fun _ => ⟨?_, ?_⟩⟩
    · rw [i_IsCone_eq (by show 2 ≤ lim; decide) (by show 2 ≤ lim; decide)]
      show some (isCn ([y, -x], [-b, a])) = _
      rw [he]
    · show i_DualCone ([y, -x], [-b, a]) = _
      rw [one y (-x) (-b) a he (by omega) (by omega) (by omega) (by omega), Int.neg_neg, Int.neg_neg]

/-! Cones met. -/

theorem own_rays {p q r s : Int} (h : 0 < crs p q r s) : inCn ([p, q], [r, s]) [p, q] = true ∧ inCn ([p, q], [r, s]) [r, s] = true := by
  have e1 : crs p q p q = 0 := by unfold crs; grind
  have e2 : crs r s r s = 0 := by unfold crs; grind
  exact ⟨inCn_iff.2 ⟨by omega, by omega⟩, inCn_iff.2 ⟨by omega, by omega⟩⟩

theorem meet_core {a b x y p q r s u0 u1 v0 v1 : Int} (hu : inCn ([a, b], [x, y]) [u0, u1] = true) (hu' : inCn ([p, q], [r, s]) [u0, u1] = true)
    (hv : inCn ([a, b], [x, y]) [v0, v1] = true) (hv' : inCn ([p, q], [r, s]) [v0, v1] = true)
    (eu : (u0 = a ∧ u1 = b) ∨ (u0 = p ∧ u1 = q)) (ev : (v0 = x ∧ v1 = y) ∨ (v0 = r ∧ v1 = s)) (hD : 0 < crs u0 u1 v0 v1) (i j : Int) :
    inCn ([u0, u1], [v0, v1]) [i, j] = (inCn ([a, b], [x, y]) [i, j] && inCn ([p, q], [r, s]) [i, j]) := by
  rw [inCn_iff] at hu hu' hv hv'
  rw [Bool.eq_iff_iff, Bool.and_eq_true, inCn_iff, inCn_iff, inCn_iff]
  constructor
  · rintro ⟨h1, h2⟩
    exact ⟨⟨combine hD h1 h2 hu.1 hv.1, combine' hD h1 h2 hu.2 hv.2⟩, ⟨combine hD h1 h2 hu'.1 hv'.1, combine' hD h1 h2 hu'.2 hv'.2⟩⟩
  · rintro ⟨h1, h2⟩
    constructor
    · rcases eu with ⟨rfl, rfl⟩ | ⟨rfl, rfl⟩
      · exact h1.1
      · exact h2.1
    · rcases ev with ⟨rfl, rfl⟩ | ⟨rfl, rfl⟩
      · exact h1.2
      · exact h2.2

theorem meet_pts {c d h : Cn} (he : meetR c d = (h, true)) : isCn c = true ∧ isCn d = true ∧ isCn h = true ∧ ∀ i j : Int, inCn h [i, j] = (inCn c [i, j] && inCn d [i, j]) := by
  unfold meetR at he
  cases hc : isCn c
  · rw [hc] at he; simp at he
  cases hd : isCn d
  · rw [hc, hd] at he; simp at he
  obtain ⟨a, b, x, y, rfl, hu, hv, hD⟩ := isCn_pv hc
  obtain ⟨p, q, r, s, rfl, ku, kv, kD⟩ := isCn_pv hd
  obtain ⟨o1, o2⟩ := own_rays hD
  obtain ⟨o3, o4⟩ := own_rays kD
  refine ⟨rfl, rfl, ?_⟩
  rw [hc, hd] at he
  simp only [Bool.and_self, if_true] at he
  have fin : ∀ u0 u1 v0 v1 : Int, (if isCn ([u0, u1], [v0, v1]) = true then ((([u0, u1], [v0, v1]) : Cn), true) else (([], []), false)) = (h, true) →
      inCn ([a, b], [x, y]) [u0, u1] = true → inCn ([p, q], [r, s]) [u0, u1] = true → inCn ([a, b], [x, y]) [v0, v1] = true → inCn ([p, q], [r, s]) [v0, v1] = true →
      ((u0 = a ∧ u1 = b) ∨ (u0 = p ∧ u1 = q)) → ((v0 = x ∧ v1 = y) ∨ (v0 = r ∧ v1 = s)) → isCn h = true ∧ ∀ i j : Int, inCn h [i, j] = (inCn ([a, b], [x, y]) [i, j] && inCn ([p, q], [r, s]) [i, j]) := fun u0 u1 v0 v1 he q1 q2 q3 q4 q5 q6 => by
    cases hh : isCn ([u0, u1], [v0, v1])
    · rw [hh] at he; simp at he
    · rw [hh] at he
      simp only [if_true, Prod.mk.injEq, and_true] at he
      subst he
      obtain ⟨_, _, _, _, e, _, _, hDD⟩ := isCn_pv hh
      simp only [Prod.mk.injEq, List.cons.injEq, and_true] at e
      obtain ⟨⟨rfl, rfl⟩, rfl, rfl⟩ := e
      exact ⟨hh, meet_core q1 q2 q3 q4 q5 q6 hDD⟩
  cases A : inCn ([p, q], [r, s]) [a, b] <;> cases B : inCn ([a, b], [x, y]) [p, q] <;> cases A' : inCn ([p, q], [r, s]) [x, y] <;> cases B' : inCn ([a, b], [x, y]) [r, s] <;>
    simp only [A, B, A', B', Bool.false_eq_true, if_false, if_true] at he
  all_goals first
    | (exfalso; simp at he; done)
    | exact fin _ _ _ _ he ‹_› ‹_› ‹_› ‹_› (.inl ⟨rfl, rfl⟩) (.inl ⟨rfl, rfl⟩)
    | exact fin _ _ _ _ he ‹_› ‹_› ‹_› ‹_› (.inl ⟨rfl, rfl⟩) (.inr ⟨rfl, rfl⟩)
    | exact fin _ _ _ _ he ‹_› ‹_› ‹_› ‹_› (.inr ⟨rfl, rfl⟩) (.inl ⟨rfl, rfl⟩)
    | exact fin _ _ _ _ he ‹_› ‹_› ‹_› ‹_› (.inr ⟨rfl, rfl⟩) (.inr ⟨rfl, rfl⟩)

theorem meet_loop {c d h : Cn} (he : meetR c d = (h, true)) : iter (w_FnRays_s21 (c, d) (h, true)) (-4) = some (.inl ()) := by
  obtain ⟨hc, hd, hh, hp⟩ := meet_pts he
  have hc : isCn (c.1, c.2) = true := hc
  have hd : isCn (d.1, d.2) = true := hd
  have hh : isCn (h.1, h.2) = true := hh
  have inn : ∀ i : Int, -4 ≤ i → i ≤ 4 → iter (w_FnRays_s24 (c, d) (h, true) i) (-4) = some (.inl ()) := fun i i1 i2 => by
    refine iter_up 9 (fun k => -4 + (k : Int)) _ (fun k hk => ?_) ?_
    · have k1 : decide ((-4 : Int) + k ≤ 4) = true := by simp; omega
      have e1 := (inCone_eq hh (a := i) (b := -4 + (k : Int)) (by omega) (by omega)).1
      have e2 := (inCone_eq hc (a := i) (b := -4 + (k : Int)) (by omega) (by omega)).1
      have e3 := (inCone_eq hd (a := i) (b := -4 + (k : Int)) (by omega) (by omega)).1
      have e4 : inCn (h.1, h.2) [i, -4 + (k : Int)] = (inCn (c.1, c.2) [i, -4 + (k : Int)] && inCn (d.1, d.2) [i, -4 + (k : Int)]) := hp i (-4 + (k : Int))
      have w : IntKind.i64.wrap ((-4 : Int) + k + 1) = -4 + ((k + 1 : Nat) : Int) := by rw [wrap_id (by omega) (by omega)]; omega
      simp only [w_FnRays_s24, k1, cond_true, e1, e2, e3, e4, Option.bind_some, w]
      cases inCn (c.1, c.2) [i, -4 + (k : Int)] <;> cases inCn (d.1, d.2) [i, -4 + (k : Int)] <;> rfl
    · unfold w_FnRays_s24
      rw [show decide ((-4 : Int) + ((9 : Nat) : Int) ≤ 4) = false from by decide, cond_false]
  refine iter_up 9 (fun k => -4 + (k : Int)) _ (fun k hk => ?_) ?_
  · have k1 : decide ((-4 : Int) + k ≤ 4) = true := by simp; omega
    have w : IntKind.i64.wrap ((-4 : Int) + k + 1) = -4 + ((k + 1 : Nat) : Int) := by rw [wrap_id (by omega) (by omega)]; omega
    simp only [w_FnRays_s21, k1, cond_true, inn _ (by omega : (-4 : Int) ≤ -4 + k) (by omega), Option.bind_some, w]
  · unfold w_FnRays_s21
    rw [show decide ((-4 : Int) + ((9 : Nat) : Int) ≤ 4) = false from by decide, cond_false]

/-! A point's expression. -/

theorem sum_back {L : List (List Int)} (h : Chn L) {p q : Int} {j : Nat} {a b : Int} (hj : j + 1 < L.length) (ha : a = crsL [p, q] (L.getD (j + 1) [])) (hb : b = crsL (L.getD j []) [p, q])
    (a0 : 0 ≤ a) (b0 : 0 ≤ b) (a1 : a ≤ 60000) (b1 : b ≤ 60000) (t : Bool) : iter (w_FnRays_s36 (two L.length j a b, t) L) ([0, 0], 0) = some (.inl [p, q]) := by
  obtain ⟨s, u, g0, e0, p0⟩ := h.at (k := j) (by omega)
  obtain ⟨y, z, g1, e1, p1⟩ := h.at (k := j + 1) hj
  have one : crs s u y z = 1 := h.one j _ _ g0 g1
  obtain ⟨pp, pq⟩ := parts (p := p) (q := q) one
  rw [e1] at ha
  rw [e0] at hb
  have ha : crs p q y z = a := ha.symm
  have hb : crs s u p q = b := hb.symm
  rw [ha, hb] at pp pq
  have bd : ∀ {m n : Int}, -30 ≤ m → m ≤ 30 → 0 ≤ n → n ≤ 60000 → -1800000 ≤ m * n ∧ m * n ≤ 1800000 := fun {m n} m1 m2 n1 n2 => by
    have := Int.natAbs_mul m n
    have h5 : m.natAbs * n.natAbs ≤ 30 * 60000 := Nat.mul_le_mul (by omega) (by omega)
    omega
  have s1 := bd p0.a1 p0.a2 a0 a1
  have s2 := bd p0.b1 p0.b2 a0 a1
  have s3 := bd p1.a1 p1.a2 b0 b1
  have s4 := bd p1.b1 p1.b2 b0 b1
  rw [Int.mul_comm a s, Int.mul_comm b y] at pp
  rw [Int.mul_comm a u, Int.mul_comm b z] at pq
  have hlen := h.len
  have st0 : (([0, 0], 0) : List Int × Int) = (fun k : Nat => ((if k ≤ j then [0, 0] else if k = j + 1 then [s * a, u * a] else [p, q] : List Int), (k : Int))) 0 := by
    show _ = ((if 0 ≤ j then [0, 0] else _ : List Int), ((0 : Nat) : Int))
    rw [if_pos (Nat.zero_le _)]
    rfl
  rw [st0]
  refine iter_up L.length (fun k => ((if k ≤ j then [0, 0] else if k = j + 1 then [s * a, u * a] else [p, q] : List Int), (k : Int))) _ (fun k hk => ?_) ?_
  · have k1 : decide ((k : Int) < ((two L.length j a b).length : Int)) = true := by rw [two_len]; simp; omega
    have k2 : idx (two L.length j a b) (k : Int) = some (if k = j + 1 then b else if k = j then a else 0) := by
      rw [idx_nat, two_get hk]
    obtain ⟨v, w, gk, _, pk⟩ := h.at hk
    have k3 : idx L (k : Int) = some [v, w] := by rw [idx_nat, gk]
    have wk : IntKind.i64.wrap ((k : Int) + 1) = ((k + 1 : Nat) : Int) := by rw [wrap_id (by omega) (by omega)]; omega
    have fin : ∀ (f m n m' n' : Int), 0 ≤ f → f ≤ 60000 → (if k = j + 1 then b else if k = j then a else 0) = f → -10000000 ≤ m → m ≤ 10000000 → -10000000 ≤ n → n ≤ 10000000 → (if k ≤ j then [0, 0] else if k = j + 1 then [s * a, u * a] else [p, q] : List Int) = [m, n] → m + v * f = m' → n + w * f = n' →
        (if k + 1 ≤ j then [0, 0] else if k + 1 = j + 1 then [s * a, u * a] else [p, q] : List Int) = [m', n'] →
        w_FnRays_s36 (two L.length j a b, t) L ((if k ≤ j then [0, 0] else if k = j + 1 then [s * a, u * a] else [p, q] : List Int), (k : Int)) = some (.inl ((if k + 1 ≤ j then [0, 0] else if k + 1 = j + 1 then [s * a, u * a] else [p, q] : List Int), ((k + 1 : Nat) : Int))) := fun f m n m' n' f0 f1 hf m1 m2 n1 n2 hm e3 e4 hm' => by
      rw [hf] at k2
      rw [hm, hm']
      have r1 := bd pk.a1 pk.a2 f0 f1
      have r2 := bd pk.b1 pk.b2 f0 f1
      have q1 := scaled_two (a := v) (b := w) (n := f) (by have := pk.a1; have := pk.a2; omega) (by have := pk.b1; have := pk.b2; omega) (by omega)
      have q2 := plus_two (a := m) (b := n) (c := v * f) (d := w * f) (by omega) (by omega) (by omega) (by omega)
      rw [e3, e4] at q2
      have hd : decide (f < 0) = false := by simp; omega
      unfold w_FnRays_s36
      simp only [k1, cond_true, k2, Option.bind_some, hd, cond_false, k3, q1, q2, wk]
    rcases Nat.lt_trichotomy k j with hlt | heq | hgt
    · exact fin 0 0 0 0 0 (by omega) (by omega) (by rw [if_neg (by omega), if_neg (by omega)]) (by omega) (by omega) (by omega) (by omega) (by rw [if_pos (by omega)]) (by omega) (by omega) (by rw [if_pos (by omega)])
    · subst heq
      rw [gk] at g0
      simp only [Option.some.injEq, List.cons.injEq, and_true] at g0
      obtain ⟨rfl, rfl⟩ := g0
      exact fin a 0 0 _ _ a0 a1 (by rw [if_neg (by omega), if_pos rfl]) (by omega) (by omega) (by omega) (by omega) (by rw [if_pos (by omega)]) (Int.zero_add _) (Int.zero_add _) (by rw [if_neg (by omega), if_pos rfl])
    · rcases Nat.eq_or_lt_of_le (show j + 1 ≤ k from hgt) with heq | hgt2
      · subst heq
        rw [gk] at g1
        simp only [Option.some.injEq, List.cons.injEq, and_true] at g1
        obtain ⟨rfl, rfl⟩ := g1
        exact fin b (s * a) (u * a) p q b0 b1 (by rw [if_pos rfl]) (by omega) (by omega) (by omega) (by omega) (by rw [if_neg (by omega), if_pos rfl]) pp pq (by rw [if_neg (by omega), if_neg (by omega)])
      · exact fin 0 p q p q (by omega) (by omega) (by rw [if_neg (by omega), if_neg (by omega)]) (by omega) (by omega) (by omega) (by omega) (by rw [if_neg (by omega), if_neg (by omega)]) (by omega) (by omega) (by rw [if_neg (by omega), if_neg (by omega)])
  · have k1 : decide ((L.length : Int) < ((two L.length j a b).length : Int)) = false := by rw [two_len]; simp
    rw [if_neg (by omega)]
    by_cases hjl : L.length = j + 1
    · omega
    · rw [if_neg hjl]
      unfold w_FnRays_s36
      simp only [k1, cond_false]

theorem rays_loop {c : Cn} (h1 : c.1.length ≤ lim) (h2 : c.2.length ≤ lim) (hc : isCn c = true) {L : List (List Int)} (hL : Spl c L) (x : List Int) : iter (w_FnRays_s42 (c, x) L) 0 = some (.inl ()) := by
  have hlen := hL.chn.len
  refine iter_up L.length (fun k => (k : Int)) _ (fun k hk => ?_) ?_
  · have k1 : decide ((k : Int) < (L.length : Int)) = true := by simp; omega
    obtain ⟨v, w, gk, ek, pk⟩ := hL.chn.at hk
    have k3 : idx L (k : Int) = some [v, w] := by rw [idx_nat, gk]
    have hr := ray_one h1 h2 hc hL hk
    rw [ek] at hr
    have hr : i_LengthIn (c.1, c.2) [v, w] = some 1 := hr
    have hs : i_IsSumOfTwo (c.1, c.2) [v, w] = some false := by simp only [i_IsSumOfTwo, hr, Option.bind_some]; rfl
    have wk : IntKind.i64.wrap ((k : Int) + 1) = ((k + 1 : Nat) : Int) := by rw [wrap_id (by omega) (by omega)]; omega
    unfold w_FnRays_s42
    simp only [k1, cond_true, k3, Option.bind_some, hs, cond_false, hr, bne_self_eq_false, wk]
  · have k1 : decide ((L.length : Int) < (L.length : Int)) = false := by simp
    unfold w_FnRays_s42
    simp only [k1, cond_false]

theorem ray_case {c : Cn} (h1 : c.1.length ≤ lim) (h2 : c.2.length ≤ lim) {x : List Int} (hx : x.length ≤ lim) :
    ∃ (o : List Int) (t : Bool) (n : Int), s_ExpressIn c x = some (o, t) ∧ i_ExpressIn c x = some (o, t) ∧ o.length ≤ 1801 ∧ s_LengthIn c x = some n ∧ i_LengthIn c x = some n ∧ (t = false → n = -1) ∧
      (t = true → ∃ L, s_SplitCone c = some L ∧ o.length = L.length ∧ w_total o = some n ∧ iter (w_FnRays_s36 (o, t) L) ([0, 0], 0) = some (.inl x) ∧ iter (w_FnRays_s42 (c, x) L) 0 = some (.inl ())) := by
  obtain ⟨o, t, e1, e2, e3, _⟩ := express_eq h1 h2 hx
  obtain ⟨n, n1, n2⟩ := length_eq h1 h2 hx
  refine ⟨o, t, n, e1, e2, e3, n1, n2, fun ht => ?_, fun ht => ?_⟩
  · subst ht
    have e1' : s_ExpressIn (c.1, c.2) x = some (o, false) := e1
    simp only [s_LengthIn, e1', Option.bind_some, Bool.not_false, cond_true] at n1
    exact (Option.some.inj n1).symm
  · subst ht
    obtain ⟨s1, s2⟩ := inConeA (c := (c.1, c.2)) h1 h2 hx
    cases hb : (isCn (c.1, c.2) && (isPt 1000 x && inCn (c.1, c.2) x)) with
    | false =>
      exfalso
      rw [hb] at s1
      simp only [s_ExpressIn, s1, Option.bind_some, Bool.not_false, cond_true, Option.some.injEq, Prod.mk.injEq] at e1
      exact Bool.noConfusion e1.2
    | true =>
      simp only [Bool.and_eq_true] at hb
      obtain ⟨hc, hp, hin⟩ := hb
      have hc : isCn c = true := hc
      obtain ⟨p, q, rfl, p1, p2, q1, q2⟩ := isPt_iff.1 hp
      obtain ⟨L, hL⟩ := spl_of h1 h2 hc
      obtain ⟨j, a, b, hj, ha, hb, a0, b0, a1, b1, f1, f2, f3, f4, f5⟩ := express_full h1 h2 hc hL ⟨p1, p2⟩ ⟨q1, q2⟩ hin
      rw [e1] at f1
      obtain ⟨rfl, _⟩ := Prod.mk.inj (Option.some.inj f1)
      rw [n1] at f3
      obtain rfl := Option.some.inj f3
      exact ⟨L, hL.s, two_len _ _ _ _, f5, sum_back hL.chn hj ha hb a0 b0 a1 b1 true, rays_loop h1 h2 hc hL _⟩

theorem law_Rays (x : List Int) (hx : TyOk (.list (.int .u8)) x) : w_FnRays x = some true := by
  have r1 : w_FnRays_s36b60 = w_FnRays_s36 := rfl
  have r2 : w_FnRays_s36b92 = w_FnRays_s36 := rfl
  have r3 : w_FnRays_s36b113 = w_FnRays_s36 := rfl
  have r4 : w_FnRays_s42b68 = w_FnRays_s42 := rfl
  have r5 : w_FnRays_s42b100 = w_FnRays_s42 := rfl
  have r6 : w_FnRays_s42b121 = w_FnRays_s42 := rfl
  have r7 : w_FnRays_s21b81 = w_FnRays_s21 := rfl
  unfold w_FnRays w_big
  rw [r1, r2, r3, r4, r5, r6, r7]
  simp only [Option.bind_some]
  by_cases hbig : (x.length : Int) > 1048576
  · rw [show decide ((x.length : Int) > 1048576) = true from by simpa using hbig]; rfl
  rw [show decide ((x.length : Int) > 1048576) = false from by simpa using hbig, cond_false]
  obtain ⟨c, v, q1, l1, l2, l3⟩ := drawExpress_ok (code := x) (by omega)
  obtain ⟨d, q2, l4, l5⟩ := drawDual_ok (code := x) (by omega)
  obtain ⟨a, b, q3, l6, l7, l8, l9⟩ := drawMeet_ok (code := x) (by omega)
  have lm : ∀ {n : Nat}, n ≤ 3 → n ≤ lim := fun {n} h => by rw [lim_eq]; omega
  obtain ⟨o, t, n, e1, e2, e3, e4, e5, e6, e7⟩ := ray_case (c := (c.1, c.2)) (lm l1) (lm l2) (x := v) (lm l3)
  obtain ⟨e, te, d1, d2, d3, d4, d5⟩ := dual_full (c := (d.1, d.2)) (lm l4) (lm l5)
  obtain ⟨m1, m2⟩ := meet_eq (c := (a.1, a.2)) (d := (b.1, b.2)) (lm l6) (lm l7) (lm l8) (lm l9)
  have m3 := @meet_len (a.1, a.2) (b.1, b.2)
  have m4 : ∀ h : Cn, meetR (a.1, a.2) (b.1, b.2) = (h, true) → iter (w_FnRays_s21 (a, b) (h, true)) (-4) = some (.inl ()) := fun h he => meet_loop (c := (a.1, a.2)) (d := (b.1, b.2)) he
  generalize meetR (a.1, a.2) (b.1, b.2) = mm at m1 m2 m3 m4
  obtain ⟨h, tm⟩ := mm
  have m5 : h.1.length ≤ 2 := m3.1
  have m6 : h.2.length ≤ 2 := m3.2
  have sum1 : i_IsSumOfTwo (c.1, c.2) v = some (decide (n ≥ 2)) := by
    have e5 : i_LengthIn ((c.1, c.2).1, (c.1, c.2).2) v = some n := e5
    simp only [i_IsSumOfTwo, e5, Option.bind_some]
  have sum2 : s_IsSumOfTwo (c.1, c.2) v = some (decide (n > 1)) := by
    have e4 : s_LengthIn ((c.1, c.2).1, (c.1, c.2).2) v = some n := e4
    simp only [s_IsSumOfTwo, e4, Option.bind_some]
  have sumE : decide (n ≥ 2) = decide (n > 1) := by rw [decide_eq_decide]; omega
  rw [sumE] at sum1
  have so : w_sameInts o o = some true := sameInts_self (by rw [lim_eq]; omega)
  have sv : w_sameInts v v = some true := sameInts_self (lm l3)
  have sc : ∀ {g : List Int × List Int}, g.1.length ≤ 3 → g.2.length ≤ 3 → w_sameCone (g.1, g.2) (g.1, g.2) = some true := fun {g} h1 h2 => by
    simp only [w_sameCone, sameInts_self (lm h1), sameInts_self (lm h2), Option.bind_some, cond_true]
  have sce := sc (g := e) (by omega) (by omega)
  have sch := sc (g := h) (by omega) (by omega)
  have scd := sc (g := d) l4 l5
  simp only [q1, q2, q3, Option.bind_some, e1, e2, e4, e5, d1, d2, m1, m2, beq_self_eq_true, Bool.not_true, cond_false, so, bne_self_eq_false, sum1, sum2, sce, sch]
  have rest : ∀ (v3 : List Int × Bool), v3 = (o, t) → (cond (!v3.2)
 (some (n == (-1 : Int)))
 ((s_SplitCone (c.1, c.2)).bind fun v32 => cond ((v3.1.length : Int) != (v32.length : Int))
 (some false)
 ((w_total v3.1).bind fun v33 => cond (n != v33)
 (some false)
 ((iter (w_FnRays_s36 v3 v32) (([(0 : Int), (0 : Int)] : List Int), (0 : Int))).bind fun v40 => match v40 with
 | .inl v41 => ((iter (w_FnRays_s42 (c, v) v32) (0 : Int)).bind fun v48 => match v48 with
 | .inl v49 => ((w_sameInts v41 v).bind fun v51 => cond v51
 ((some (decide (n > 1))).bind fun v52 => some (v52 == decide (n > (1 : Int))))
 (some false))
 | .inr v50 => (some v50))
 | .inr v42 => (some v42))))) = some true := by
    rintro _ rfl
    cases t with
    | false => rw [e6 rfl]; rfl
    | true =>
      obtain ⟨L, y1, y2, y3, y4, y5⟩ := e7 rfl
      have y5 : iter (w_FnRays_s42 (c, v) L) 0 = some (.inl ()) := y5
      simp only [Bool.not_true, cond_false, y1, Option.bind_some, y2, bne_self_eq_false, y3, y4, y5, sv, cond_true, beq_self_eq_true]
  have rest := rest (o, t) rfl
  simp only [Option.bind_some, beq_self_eq_true] at rest
  have tail : ∀ z : Option Bool, z = some true → cond tm ((iter (w_FnRays_s21 (a, b) (h, tm)) (-4)).bind fun v29 => match v29 with
      | .inl v30 => z
      | .inr v31 => some v31) z = some true := fun z hz => by
    cases tm with
    | false => exact hz
    | true => rw [cond_true, m4 h rfl]; exact hz
  cases te with
  | false =>
    rw [cond_false]
    exact tail _ rest
  | true =>
    obtain ⟨d6, d7⟩ := d5 rfl
    simp only [cond_true, d7, Option.bind_some, Bool.not_true, cond_false, scd, d6, beq_self_eq_true]
    exact tail _ rest

end Go.Proofs.Ytdkkjgbgodnopaa
