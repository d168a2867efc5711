/-
  Plain: points of cones as sums of rays. No condition.
-/
import Derived.Test.YtdkkjgbgodnopaaPlT
namespace Go.Proofs.Ytdkkjgbgodnopaa
open Go Go.Proofs.Ytdkkjgbgodnopaa.Eng
set_option linter.unusedVariables false
set_option linter.unusedSimpArgs false

/-- Where a point lies: the first pair of neighbors with it between them. -/
def exR (x : List Int) (L : List (List Int)) : Nat → Nat → List Int → List Int
  | 0, _, out => out
  | n + 1, k, out => if 0 ≤ crsL x (L.getD (k + 1) []) ∧ 0 ≤ crsL (L.getD k []) x then (out.set k (crsL x (L.getD (k + 1) []))).set (k + 1) (crsL (L.getD k []) x) else exR x L n (k + 1) out

theorem crsT {a b c d : Int} (ha : Tn a) (hb : Tn b) (hc : Tn c) (hd : Tn d) : s_l7Cross [a, b] [c, d] = some (crsL [a, b] [c, d]) ∧ i_cross [a, b] [c, d] = some (crsL [a, b] [c, d]) :=
  ⟨l7Cross_eq ha hb hc hd, cross_eq ha hb hc hd⟩

theorem ex_loop {L : List (List Int)} (h : Chn L) {p q : Int} (hp : Tn p) (hq : Tn q) (out : List Int) (hout : out.length = L.length) :
    ∀ (n k : Nat), k + n + 1 = L.length → (∃ y, iter (s_ExpressIn_s6 [p, q] L) (out, (k : Int)) = some y ∧ (match y with
      | .inl o => (o, true)
      | .inr r => r) = (exR [p, q] L n k out, true)) ∧ iter (i_ExpressIn_s6 [p, q] L) (out, ((k + 1 : Nat) : Int)) = some (exR [p, q] L n k out) := by
  have hl := h.len
  intro n
  induction n with
  | zero =>
    intro k hk
    have w1 : IntKind.i64.wrap ((k : Int) + 1) = ((k + 1 : Nat) : Int) := by rw [wrap_id (by omega) (by omega)]; omega
    have hd : decide (((k + 1 : Nat) : Int) < (L.length : Int)) = false := by simp; omega
    refine ⟨⟨.inl out, iter_end ?_, rfl⟩, iter_end ?_⟩
    · simp only [s_ExpressIn_s6, w1, hd, cond_false]
    · simp only [i_ExpressIn_s6, hd, cond_false, exR]
  | succ n ih =>
    intro k hk
    have w1 : IntKind.i64.wrap ((k : Int) + 1) = ((k + 1 : Nat) : Int) := by rw [wrap_id (by omega) (by omega)]; omega
    have w2 : IntKind.i64.wrap (((k + 1 : Nat) : Int) + 1) = ((k + 1 + 1 : Nat) : Int) := by rw [wrap_id (by omega) (by omega)]; omega
    have w3 : IntKind.i64.wrap (((k + 1 : Nat) : Int) - 1) = (k : Int) := by rw [wrap_id (by omega) (by omega)]; omega
    have hd : decide (((k + 1 : Nat) : Int) < (L.length : Int)) = true := by simp; omega
    obtain ⟨a, b, g1, e1, p1⟩ := h.at (k := k) (by omega)
    obtain ⟨c, d, g2, e2, p2⟩ := h.at (k := k + 1) (by omega)
    obtain ⟨s1, i1⟩ := crsT hp hq p2.ta p2.tb
    obtain ⟨s2, i2⟩ := crsT p1.ta p1.tb hp hq
    have n1 : inIdx out.length (k : Int) = some () := inIdx_nat (by omega)
    have n2 : ∀ z : Int, inIdx (out.set k z).length ((k + 1 : Nat) : Int) = some () := fun z => inIdx_nat (by rw [List.length_set]; omega)
    obtain ⟨r1, r2⟩ := ih (k + 1) (by omega)
    have rw0 : exR [p, q] L (n + 1) k out = if 0 ≤ crsL [p, q] [c, d] ∧ 0 ≤ crsL [a, b] [p, q] then (out.set k (crsL [p, q] [c, d])).set (k + 1) (crsL [a, b] [p, q]) else exR [p, q] L n (k + 1) out := by
      simp only [exR, e1, e2]
    rw [rw0]
    by_cases hA : crsL [p, q] [c, d] ≥ 0
    · have dA : decide (crsL [p, q] [c, d] ≥ 0) = true := by simpa using hA
      by_cases hB : crsL [a, b] [p, q] ≥ 0
      · have dB : decide (crsL [a, b] [p, q] ≥ 0) = true := by simpa using hB
        rw [if_pos ⟨hA, hB⟩]
        refine ⟨⟨.inr ((out.set k (crsL [p, q] [c, d])).set (k + 1) (crsL [a, b] [p, q]), true), iter_end ?_, rfl⟩, iter_end ?_⟩
        · simp only [s_ExpressIn_s6, w1, hd, cond_true, idx_some g1, idx_some g2, s1, s2, Option.bind_some, dA, dB, Int.toNat_natCast, n1, n2]
        · simp only [i_ExpressIn_s6, w3, hd, cond_true, idx_some g1, idx_some g2, i1, i2, Option.bind_some, dA, dB, Int.toNat_natCast, n1, n2]
      · have dB : decide (crsL [a, b] [p, q] ≥ 0) = false := by simpa using hB
        rw [if_neg fun hc => hB hc.2]
        refine ⟨?_, ?_⟩
        · rw [iter_next (s' := (out, ((k + 1 : Nat) : Int))) (by simp only [s_ExpressIn_s6, w1, hd, cond_true, idx_some g1, idx_some g2, s1, s2, Option.bind_some, dA, dB, cond_false])]
          exact r1
        · rw [iter_next (s' := (out, ((k + 1 + 1 : Nat) : Int))) (by simp only [i_ExpressIn_s6, w2, w3, hd, cond_true, idx_some g1, idx_some g2, i1, i2, Option.bind_some, dA, dB, cond_false])]
          exact r2
    · have dA : decide (crsL [p, q] [c, d] ≥ 0) = false := by simpa using hA
      rw [if_neg fun hc => hA hc.1]
      refine ⟨?_, ?_⟩
      · rw [iter_next (s' := (out, ((k + 1 : Nat) : Int))) (by simp only [s_ExpressIn_s6, w1, hd, cond_true, idx_some g1, idx_some g2, s1, s2, Option.bind_some, dA, cond_false])]
        exact r1
      · rw [iter_next (s' := (out, ((k + 1 + 1 : Nat) : Int))) (by simp only [i_ExpressIn_s6, w2, w3, hd, cond_true, idx_some g1, idx_some g2, i1, i2, Option.bind_some, dA, cond_false])]
        exact r2

/-- The entries are small. -/
theorem exR_small {L : List (List Int)} (h : Chn L) {p q : Int} (hp : -1000 ≤ p ∧ p ≤ 1000) (hq : -1000 ≤ q ∧ q ≤ 1000) : ∀ (n k : Nat) (out : List Int), (∀ z ∈ out, -60000 ≤ z ∧ z ≤ 60000) → k + n + 1 = L.length → ∀ z ∈ exR [p, q] L n k out, -60000 ≤ z ∧ z ≤ 60000 := by
  have m : ∀ {x y : Int}, -1000 ≤ x → x ≤ 1000 → -30 ≤ y → y ≤ 30 → -30000 ≤ x * y ∧ x * y ≤ 30000 := fun {x y} h1 h2 h3 h4 => by
    have := Int.natAbs_mul x y
    have h5 : x.natAbs * y.natAbs ≤ 1000 * 30 := Nat.mul_le_mul (by omega) (by omega)
    omega
  intro n
  induction n with
  | zero => intro k out ho _ z hz; exact ho z hz
  | succ n ih =>
    intro k out ho hk z hz
    simp only [exR] at hz
    split at hz
    · obtain ⟨a, b, _, e1, p1⟩ := h.at (k := k) (by omega)
      obtain ⟨c, d, _, e2, p2⟩ := h.at (k := k + 1) (by omega)
      rw [e1, e2] at hz
      rcases List.mem_or_eq_of_mem_set hz with hz | rfl
      · rcases List.mem_or_eq_of_mem_set hz with hz | rfl
        · exact ho z hz
        · have h1 := m hp.1 hp.2 p2.b1 p2.b2
          have h2 := m hq.1 hq.2 p2.a1 p2.a2
          show -60000 ≤ p * d - q * c ∧ p * d - q * c ≤ 60000
          omega
      · have h1 := m hp.1 hp.2 p1.b1 p1.b2
        have h2 := m hq.1 hq.2 p1.a1 p1.a2
        rw [Int.mul_comm] at h1 h2
        show -60000 ≤ a * q - b * p ∧ a * q - b * p ≤ 60000
        omega
    · exact ih (k + 1) out ho (by omega) z hz

theorem exR_len {L : List (List Int)} {x : List Int} : ∀ (n k : Nat) (out : List Int), (exR x L n k out).length = out.length := by
  intro n
  induction n with
  | zero => intro k out; rfl
  | succ n ih =>
    intro k out
    simp only [exR]
    split
    · simp
    · exact ih _ _

/-- A vector of two entries up to 1000. -/
def vec2 (x : List Int) : Bool := isPt 1000 x

theorem inConeA {c : Cn} (h1 : c.1.length ≤ lim) (h2 : c.2.length ≤ lim) {x : List Int} (hx : x.length ≤ lim) : s_InCone c x = some (isCn c && (isPt 1000 x && inCn c x)) ∧ i_InCone c x = some (isCn c && (isPt 1000 x && inCn c x)) := by
  cases hc : isCn c
  · have e1 : isCn (c.1, c.2) = false := hc
    simp only [s_InCone, i_InCone, s_IsCone_eq (c := (c.1, c.2)) h1 h2, i_IsCone_eq (c := (c.1, c.2)) h1 h2, Option.bind_some, e1, cond_false, Bool.false_and]
    exact ⟨trivial, trivial⟩
  · have e1 : isCn (c.1, c.2) = true := hc
    cases hp : isPt 1000 x
    · have hlen : ∀ b : Bool, (cond (inR 1 3 (x.length : Int)) (cond (x.all (inR (-1000) 1000)) (cond ((x.length : Int) == 2) b false) false) false) = false ∨ x.length = 2 := fun b => by
        by_cases h : x.length = 2
        · exact .inr h
        · left
          have : ((x.length : Int) == 2) = false := by simp; omega
          rw [this]; cases inR 1 3 (x.length : Int) <;> cases x.all (inR (-1000) 1000) <;> rfl
      simp only [s_InCone, i_InCone, s_IsCone_eq (c := (c.1, c.2)) h1 h2, i_IsCone_eq (c := (c.1, c.2)) h1 h2, Option.bind_some, e1, cond_true, Bool.true_and, Bool.false_and, s_IsVector, i_IsVector, l1In_eq, within_eq, l2Small_eq hx (m := 1000) (by omega) (by omega), allWithin_eq hx]
      have hall : x.length = 2 → x.all (inR (-1000) 1000) = false := fun h => by
        cases ha : x.all (inR (-1000) 1000)
        · rfl
        · have : isPt 1000 x = true := by unfold isPt; rw [h, ha]; rfl
          rw [hp] at this; simp at this
      by_cases h : x.length = 2
      · have ha := hall h
        have hr : inR 1 3 (x.length : Int) = true := by rw [h]; rfl
        simp only [hr, ha, cond_true, cond_false, Option.bind_some]
        exact ⟨trivial, trivial⟩
      · have hb : ((x.length : Int) == 2) = false := by simp; omega
        cases inR 1 3 (x.length : Int) <;> cases x.all (inR (-1000) 1000) <;> simp only [hb, cond_true, cond_false, Option.bind_some] <;> exact ⟨trivial, trivial⟩
    · obtain ⟨a, b, rfl, q1, q2, q3, q4⟩ := isPt_iff.1 hp
      have := inCone_eq hc (a := a) (b := b) ⟨q1, q2⟩ ⟨q3, q4⟩
      simpa using this

/-- Both express a point alike. -/
theorem express_eq {c : Cn} (h1 : c.1.length ≤ lim) (h2 : c.2.length ≤ lim) {x : List Int} (hx : x.length ≤ lim) : ∃ (o : List Int) (t : Bool), s_ExpressIn c x = some (o, t) ∧ i_ExpressIn c x = some (o, t) ∧ o.length ≤ 1801 ∧ ∀ z ∈ o, -60000 ≤ z ∧ z ≤ 60000 := by
  obtain ⟨s1, i1⟩ := inConeA (c := (c.1, c.2)) h1 h2 hx
  simp only [s_ExpressIn, i_ExpressIn, s1, i1, Option.bind_some]
  cases hb : (isCn (c.1, c.2) && (isPt 1000 x && inCn (c.1, c.2) x))
  · exact ⟨[], false, rfl, rfl, by simp, by simp⟩
  · simp only [Bool.and_eq_true] at hb
    obtain ⟨hc, hp, _⟩ := hb
    obtain ⟨p, q, rfl, q1, q2, q3, q4⟩ := isPt_iff.1 hp
    obtain ⟨L, l1, l2, l3, _, l5⟩ := split_eq (c := (c.1, c.2)) h1 h2
    obtain ⟨_, _, _, _, hch, hhd⟩ := l5 hc
    have hn : Chn L := ⟨l3, hch.pv, hch.one⟩
    have hpos : 0 < L.length := by cases L with
      | nil => simp at hhd
      | cons _ _ => simp
    have hmk : mkD 8 (L.length : Int) (0 : Int) = some (List.replicate L.length 0) := mkD_some (by rw [lim_eq]; omega) (by rw [lim_eq]; omega)
    obtain ⟨⟨y, r1, r2⟩, r3⟩ := ex_loop hn (p := p) (q := q) (by unfold Tn; omega) (by unfold Tn; omega) (List.replicate L.length 0) (by simp) (L.length - 1) 0 (by omega)
    have r1 : iter (s_ExpressIn_s6 [p, q] L) (List.replicate L.length 0, 0) = some y := r1
    have r3 : iter (i_ExpressIn_s6 [p, q] L) (List.replicate L.length 0, 1) = some (exR [p, q] L (L.length - 1) 0 (List.replicate L.length 0)) := r3
    refine ⟨exR [p, q] L (L.length - 1) 0 (List.replicate L.length 0), true, ?_, ?_, by rw [exR_len]; simp; exact l3, exR_small hn ⟨q1, q2⟩ ⟨q3, q4⟩ _ _ _ (fun z hz => by have := (List.mem_replicate.1 hz).2; omega) (by omega)⟩
    · simp only [Bool.not_true, cond_false, l1, hmk, r1, Option.bind_some]
      rw [← r2]
      cases y <;> rfl
    · simp only [Bool.not_true, cond_false, l2, hmk, r3, Option.bind_some]

theorem sum_loop {T : List Int} (hl : T.length ≤ 1801) (ht : ∀ t ∈ T, -60000 ≤ t ∧ t ≤ 60000) (b : Bool) : iter (s_LengthIn_s6 (T, b)) (0, 0) = some (T.foldl (fun n t => n + t) 0) := by
  have hlim : T.length ≤ lim := Nat.le_trans hl (by decide)
  have := iter_list0 (step := s_LengthIn_s6 (T, b)) (fun a k => (a, k)) T (fun n t => .inl (n + t)) (fun n => n) (fun k n => -(60000 * (k : Int)) ≤ n ∧ n ≤ 60000 * (k : Int)) (fun k n t hk hn => ?_) (fun n hn => by simp [s_LengthIn_s6]) 0 ⟨by omega, by omega⟩
  · rw [this, runL_fold]
  · have hb := ht t (List.mem_of_getElem? hk)
    have hlt := len_lt hk
    have hd : decide ((k : Int) < (T.length : Int)) = true := by simp; omega
    have w1 : IntKind.i64.wrap (n + t) = n + t := wrap_id (by omega) (by omega)
    refine ⟨by simp only [s_LengthIn_s6, hd, cond_true, idx_some hk, Option.bind_some, w1, wrap_succ (Nat.le_trans (Nat.le_of_lt hlt) hlim)], fun a' ha' => ?_⟩
    simp only [Sum.inl.injEq] at ha'
    omega

theorem length_eq {c : Cn} (h1 : c.1.length ≤ lim) (h2 : c.2.length ≤ lim) {x : List Int} (hx : x.length ≤ lim) : ∃ n : Int, s_LengthIn c x = some n ∧ i_LengthIn c x = some n := by
  obtain ⟨o, t, e1, e2, h3, h4⟩ := express_eq (c := (c.1, c.2)) h1 h2 hx
  have hs := sum_loop h3 h4 t
  have hi : iter (i_LengthIn_s6 (o, t)) (0, 0) = some (o.foldl (fun n t => n + t) 0) := hs
  simp only [s_LengthIn, i_LengthIn, e1, e2, Option.bind_some, hs, hi]
  cases t
  · exact ⟨-1, rfl, rfl⟩
  · exact ⟨_, rfl, rfl⟩

end Go.Proofs.Ytdkkjgbgodnopaa
