/-
  Plain: rays of cones, for everything drawn. No condition.
-/
import Derived.Test.YtdkkjgbgodnopaaPlRa
import Derived.Test.YtdkkjgbgodnopaaPlRb
import Derived.Test.YtdkkjgbgodnopaaPlSl
import Derived.Test.YtdkkjgbgodnopaaLwN
namespace Go.Proofs.Ytdkkjgbgodnopaa
open Go Go.Proofs.Ytdkkjgbgodnopaa.Eng
set_option linter.unusedVariables false
set_option linter.unusedSimpArgs false

theorem foldl_sum : ∀ (T : List Int) (a : Int), T.foldl (fun n t => n + t) a = a + T.sum
  | [], a => by simp
  | t :: T, a => by
    rw [List.foldl_cons, foldl_sum T, List.sum_cons]
    omega

theorem sum_set : ∀ {l : List Int} {i : Nat} {v x : Int}, l[i]? = some x → (l.set i v).sum = l.sum - x + v
  | [], i, v, x, h => by simp at h
  | y :: l, 0, v, x, h => by
    simp at h
    subst h
    simp only [List.set_cons_zero, List.sum_cons]
    omega
  | y :: l, i + 1, v, x, h => by
    have := sum_set (l := l) (i := i) (v := v) (x := x) (by simpa using h)
    simp only [List.set_cons_succ, List.sum_cons, this]
    omega

theorem sum_zero : ∀ n : Nat, (List.replicate n (0 : Int)).sum = 0
  | 0 => rfl
  | n + 1 => by rw [List.replicate_succ, List.sum_cons, sum_zero n]; rfl

/-- What expresses a point: two neighbors' parts. -/
def two (n j : Nat) (a b : Int) : List Int := ((List.replicate n (0 : Int)).set j a).set (j + 1) b

theorem two_get {n j k : Nat} {a b : Int} (hk : k < n) : (two n j a b)[k]? = some (if k = j + 1 then b else if k = j then a else 0) := by
  unfold two
  rw [List.getElem?_set, List.getElem?_set, List.getElem?_replicate]
  by_cases h1 : k = j + 1
  · subst h1
    simp [hk]
  · rw [if_neg (fun h => h1 h.symm), if_neg h1]
    by_cases h2 : k = j
    · subst h2; simp [hk]
    · rw [if_neg (fun h => h2 h.symm), if_neg h2, if_pos hk]

theorem two_sum {n j : Nat} {a b : Int} (hj : j + 1 < n) : (two n j a b).sum = a + b := by
  unfold two
  have h1 : (List.replicate n (0 : Int))[j]? = some 0 := by rw [List.getElem?_replicate, if_pos (by omega)]
  have h2 : ((List.replicate n (0 : Int)).set j a)[j + 1]? = some 0 := by rw [List.getElem?_set, if_neg (by omega), List.getElem?_replicate, if_pos hj]
  rw [sum_set h2, sum_set h1, sum_zero]
  omega

theorem two_len (n j : Nat) (a b : Int) : (two n j a b).length = n := by simp [two]

/-- All that is known of a cone's split. -/
structure Spl (c : Cn) (L : List (List Int)) : Prop where
  s : s_SplitCone c = some L
  i : i_SplitCone c = some L
  chn : Chn L
  two : 2 ≤ L.length
  tt : ∀ t ∈ turns L, 2 ≤ t
  fst : L.getD 0 [] = c.1
  lst : L.getD (L.length - 2 + 1) [] = c.2

theorem spl_of {c : Cn} (h1 : c.1.length ≤ lim) (h2 : c.2.length ≤ lim) (hc : isCn c = true) : ∃ L, Spl c L := by
  obtain ⟨L, q1, q2, q3, q4, q5⟩ := split_eq h1 h2
  obtain ⟨x, y, hxy, hv, hch, hhd⟩ := q5 hc
  obtain ⟨a, b, p, q, u0, v0, r, rfl, hu, hv', hD, m1, m2, m3, hn, hhj⟩ := chain_of h1 h2 hc
  rw [q2] at m2
  obtain rfl := Option.some.inj m2
  simp only [List.cons.injEq, and_true] at hxy
  obtain ⟨rfl, rfl⟩ := hxy
  refine ⟨_, q1, q2, m3, by simp, by rw [hhj]; exact hj_two _ _ _ hn.hi, rfl, ?_⟩
  have hl := ch_last hv' r a b [u0, v0] hch
  rw [List.getLast?_eq_getElem?] at hl
  rw [List.getD_eq_getElem?_getD]
  have e : ([a, b] :: [u0, v0] :: r).length - 2 + 1 = ([a, b] :: [u0, v0] :: r).length - 1 := by simp
  rw [e, hl]
  rfl

theorem express_full {c : Cn} (h1 : c.1.length ≤ lim) (h2 : c.2.length ≤ lim) (hc : isCn c = true) {L : List (List Int)} (hL : Spl c L) {p q : Int} (hp : -1000 ≤ p ∧ p ≤ 1000) (hq : -1000 ≤ q ∧ q ≤ 1000) (hin : inCn c [p, q] = true) :
    ∃ (j : Nat) (a b : Int), j + 1 < L.length ∧ a = crsL [p, q] (L.getD (j + 1) []) ∧ b = crsL (L.getD j []) [p, q] ∧ 0 ≤ a ∧ 0 ≤ b ∧ a ≤ 60000 ∧ b ≤ 60000 ∧
      s_ExpressIn c [p, q] = some (two L.length j a b, true) ∧ i_ExpressIn c [p, q] = some (two L.length j a b, true) ∧ s_LengthIn c [p, q] = some (a + b) ∧ i_LengthIn c [p, q] = some (a + b) ∧ w_total (two L.length j a b) = some (a + b) := by
  have hx : ([p, q] : List Int).length ≤ lim := show 2 ≤ lim by decide
  have hpt : isPt 1000 [p, q] = true := isPt_iff.2 ⟨p, q, rfl, hp.1, hp.2, hq.1, hq.2⟩
  have hin2 := hin
  simp only [inCn, Bool.and_eq_true, decide_eq_true_eq] at hin2
  obtain ⟨i1, i2⟩ := hin2
  rw [← hL.fst] at i1
  rw [← hL.lst] at i2
  obtain ⟨j0, k1, k2⟩ := at_ex (L.length - 2) i1 i2
  have h2l := hL.two
  obtain ⟨j, k3, k4, k5, k6⟩ := exR_found (x := [p, q]) (L := L) (L.length - 1) 0 (List.replicate L.length 0) ⟨j0, by omega, by omega, k2⟩
  have hj : j + 1 < L.length := by omega
  obtain ⟨s1, s2⟩ := inConeA (c := (c.1, c.2)) h1 h2 hx
  have hc' : isCn (c.1, c.2) = true := hc
  have hin' : inCn (c.1, c.2) [p, q] = true := hin
  obtain ⟨⟨y, r1, r2⟩, r3⟩ := ex_loop hL.chn (p := p) (q := q) (by unfold Tn; omega) (by unfold Tn; omega) (List.replicate L.length 0) (by simp) (L.length - 1) 0 (by omega)
  have r1 : iter (s_ExpressIn_s6 [p, q] L) (List.replicate L.length 0, 0) = some y := r1
  have r3 : iter (i_ExpressIn_s6 [p, q] L) (List.replicate L.length 0, 1) = some (exR [p, q] L (L.length - 1) 0 (List.replicate L.length 0)) := r3
  rw [k6] at r2 r3
  have hlen := hL.chn.len
  have hmk : mkD 8 (L.length : Int) (0 : Int) = some (List.replicate L.length 0) := mkD_some (by rw [lim_eq]; omega) (by rw [lim_eq]; omega)
  have l1 : s_SplitCone (c.1, c.2) = some L := hL.s
  have l2 : i_SplitCone (c.1, c.2) = some L := hL.i
  generalize ha : crsL [p, q] (L.getD (j + 1) []) = a at *
  generalize hb : crsL (L.getD j []) [p, q] = b at *
  have a0 : 0 ≤ a := by rw [← ha]; exact k5.1
  have b0 : 0 ≤ b := by rw [← hb]; exact k5.2
  have hsm := exR_small hL.chn hp hq (L.length - 1) 0 (List.replicate L.length 0) (fun z hz => by have := (List.mem_replicate.1 hz).2; omega) (by omega)
  rw [k6] at hsm
  have hsm : ∀ z ∈ two L.length j a b, -60000 ≤ z ∧ z ≤ 60000 := hsm
  have ea : a ≤ 60000 := (hsm a (List.mem_of_getElem? (i := j) (by rw [two_get (by omega)]; rw [if_neg (by omega), if_pos rfl]))).2
  have eb : b ≤ 60000 := (hsm b (List.mem_of_getElem? (i := j + 1) (by rw [two_get (by omega)]; rw [if_pos rfl]))).2
  have e1 : s_ExpressIn c [p, q] = some (two L.length j a b, true) := by
    simp only [s_ExpressIn, s1, Option.bind_some, hc', hpt, hin', Bool.and_self, Bool.not_true, cond_false, l1, hmk, r1]
    show _ = some (((List.replicate L.length (0 : Int)).set j a).set (j + 1) b, true)
    rw [← r2]
    cases y <;> rfl
  have e2 : i_ExpressIn c [p, q] = some (two L.length j a b, true) := by
    simp only [i_ExpressIn, s2, Option.bind_some, hc', hpt, hin', Bool.and_self, Bool.not_true, cond_false, l2, hmk, r3]
    rfl
  have hs := sum_loop (T := two L.length j a b) (by rw [two_len]; exact hlen) hsm true
  rw [foldl_sum, two_sum hj, Int.zero_add] at hs
  have hi : iter (i_LengthIn_s6 (two L.length j a b, true)) (0, 0) = some (a + b) := hs
  have hw : iter (w_total_s3 (two L.length j a b)) (0, 0) = some (a + b) := hs
  have e1' : s_ExpressIn (c.1, c.2) [p, q] = some (two L.length j a b, true) := e1
  have e2' : i_ExpressIn (c.1, c.2) [p, q] = some (two L.length j a b, true) := e2
  refine ⟨j, a, b, hj, ha.symm, hb.symm, a0, b0, ea, eb, e1, e2, ?_, ?_, ?_⟩
  · simp only [s_LengthIn, e1', Option.bind_some, Bool.not_true, cond_false, hs]
  · simp only [i_LengthIn, e2', Option.bind_some, Bool.not_true, cond_false, hi]
  · simp only [w_total, hw, Option.bind_some]

/-- A ray is no sum of two. -/
theorem ray_one {c : Cn} (h1 : c.1.length ≤ lim) (h2 : c.2.length ≤ lim) (hc : isCn c = true) {L : List (List Int)} (hL : Spl c L) {i : Nat} (hi : i < L.length) : i_LengthIn c (L.getD i []) = some 1 := by
  obtain ⟨s, t, g, e, hp⟩ := hL.chn.at (k := i) hi
  have hin : inCn c [s, t] = true := by
    simp only [inCn, Bool.and_eq_true, decide_eq_true_eq]
    rw [← hL.fst, ← hL.lst, ← e]
    have h2l := hL.two
    constructor
    · rcases Nat.eq_zero_or_pos i with rfl | h
      · rw [crsL_self]; omega
      · have := chn_lt hL.chn hL.tt h hi; omega
    · rcases Nat.lt_or_ge i (L.length - 2 + 1) with h | h
      · have := chn_lt hL.chn hL.tt h (by omega); omega
      · have : i = L.length - 2 + 1 := by omega
        rw [this, crsL_self]; omega
  obtain ⟨j, a, b, hj, ha, hb, a0, b0, _, _, _, _, _, e2, _⟩ := express_full h1 h2 hc hL (p := s) (q := t) (by have := hp.a1; have := hp.a2; omega) (by have := hp.b1; have := hp.b2; omega) hin
  rw [e, e2]
  rw [← e] at ha hb
  congr 1
  rcases Nat.lt_trichotomy (j + 1) i with h | h | h
  · exfalso
    have := chn_lt hL.chn hL.tt h hi
    have n := crsL_neg (L.getD i []) (L.getD (j + 1) [])
    omega
  · subst h
    have h1 := hL.chn.at (k := j) (by omega)
    obtain ⟨x, y, g0, e0, _⟩ := h1
    have := hL.chn.one j _ _ g0 g
    rw [crsL_self] at ha
    rw [e0, e, this] at hb
    omega
  · rcases Nat.lt_or_ge i j with h3 | h3
    · exfalso
      have := chn_lt hL.chn hL.tt h3 (by omega)
      have n := crsL_neg (L.getD j []) (L.getD i [])
      omega
    · have : i = j := by omega
      subst this
      obtain ⟨x, y, g0, e0, _⟩ := hL.chn.at (k := i + 1) (by omega)
      have := hL.chn.one i _ _ g g0
      rw [crsL_self] at hb
      rw [e, e0, this] at ha
      omega

theorem scaled_two {a b n : Int} (ha : -100000 ≤ a ∧ a ≤ 100000) (hb : -100000 ≤ b ∧ b ≤ 100000) (hn : -100000 ≤ n ∧ n ≤ 100000) : w_scaled [a, b] n = some [a * n, b * n] := by
  have m : ∀ {x : Int}, -100000 ≤ x ∧ x ≤ 100000 → -10000000000 ≤ x * n ∧ x * n ≤ 10000000000 := fun {x} h => by
    have := Int.natAbs_mul x n
    have h5 : x.natAbs * n.natAbs ≤ 100000 * 100000 := Nat.mul_le_mul (by omega) (by omega)
    omega
  have m1 := m ha
  have m2 := m hb
  unfold w_scaled
  have a1 : ∀ x : Int, appD 8 ([] : List Int) [x] = some [x] := fun x => by rw [appD_some (by simp [lim_eq]) (by simp [lim_eq])]; rfl
  have a2 : ∀ x y : Int, appD 8 [x] [y] = some [x, y] := fun x y => by rw [appD_some (by simp [lim_eq]) (by simp [lim_eq])]; rfl
  have i0 : idx [a, b] 0 = some a := rfl
  have i1 : idx [a, b] 1 = some b := rfl
  have w1 : IntKind.i64.wrap ((0 : Int) + 1) = 1 := rfl
  have w2 : IntKind.i64.wrap ((1 : Int) + 1) = 2 := rfl
  rw [iter_next (s' := ([a * n], 1)) (by
    unfold w_scaled_s3
    simp only [show decide ((0 : Int) < (([a, b] : List Int).length : Int)) = true from rfl, cond_true, i0, Option.bind_some, wrap_id (x := a * n) (by omega) (by omega), a1, w1])]
  rw [iter_next (s' := ([a * n, b * n], 2)) (by
    unfold w_scaled_s3
    simp only [show decide ((1 : Int) < (([a, b] : List Int).length : Int)) = true from rfl, cond_true, i1, Option.bind_some, wrap_id (x := b * n) (by omega) (by omega), a2, w2])]
  rw [iter_end (y := [a * n, b * n]) (by
    unfold w_scaled_s3
    simp only [show decide ((2 : Int) < (([a, b] : List Int).length : Int)) = false from rfl, cond_false])]
  rfl

theorem plus_two {a b c d : Int} (ha : -100000000000 ≤ a ∧ a ≤ 100000000000) (hb : -100000000000 ≤ b ∧ b ≤ 100000000000) (hc : -100000000000 ≤ c ∧ c ≤ 100000000000) (hd : -100000000000 ≤ d ∧ d ≤ 100000000000) : w_plus [a, b] [c, d] = some [a + c, b + d] := by
  unfold w_plus
  have a1 : ∀ x : Int, appD 8 ([] : List Int) [x] = some [x] := fun x => by rw [appD_some (by simp [lim_eq]) (by simp [lim_eq])]; rfl
  have a2 : ∀ x y : Int, appD 8 [x] [y] = some [x, y] := fun x y => by rw [appD_some (by simp [lim_eq]) (by simp [lim_eq])]; rfl
  have i0 : idx [a, b] 0 = some a := rfl
  have i1 : idx [a, b] 1 = some b := rfl
  have j0 : idx [c, d] 0 = some c := rfl
  have j1 : idx [c, d] 1 = some d := rfl
  have w1 : IntKind.i64.wrap ((0 : Int) + 1) = 1 := rfl
  have w2 : IntKind.i64.wrap ((1 : Int) + 1) = 2 := rfl
  rw [iter_next (s' := ([a + c], 1)) (by
    unfold w_plus_s3
    simp only [show decide ((0 : Int) < (([a, b] : List Int).length : Int)) = true from rfl, show decide ((0 : Int) < (([c, d] : List Int).length : Int)) = true from rfl, cond_true, i0, j0, Option.bind_some, wrap_id (x := a + c) (by omega) (by omega), a1, w1])]
  rw [iter_next (s' := ([a + c, b + d], 2)) (by
    unfold w_plus_s3
    simp only [show decide ((1 : Int) < (([a, b] : List Int).length : Int)) = true from rfl, show decide ((1 : Int) < (([c, d] : List Int).length : Int)) = true from rfl, cond_true, i1, j1, Option.bind_some, wrap_id (x := b + d) (by omega) (by omega), a2, w2])]
  rw [iter_end (y := [a + c, b + d]) (by
    unfold w_plus_s3
    simp only [show decide ((2 : Int) < (([a, b] : List Int).length : Int)) = false from rfl, cond_false])]
  rfl

end Go.Proofs.Ytdkkjgbgodnopaa
