/-
  Numbers, vectors, common divisors: what the program and the reference compute. No condition.
-/
import Derived.Test.YtcpdhjklcongoaaPl2
namespace Go.Proofs.Ytcpdhjklcongoaa
open Go Eng
set_option linter.unusedVariables false
set_option linter.unusedSimpArgs false
/-- From lo to hi. -/
def inR (lo hi x : Int) : Bool := decide (lo ≤ x) && decide (x ≤ hi)
theorem inR_iff {lo hi x : Int} : inR lo hi x = true ↔ lo ≤ x ∧ x ≤ hi := by simp [inR]
theorem within_eq (x lo hi : Int) : i_within x lo hi = some (inR lo hi x) := by
  unfold i_within inR
  by_cases h : x ≥ lo
  · simp [h]
  · have : ¬ lo ≤ x := h
    simp [h, this]
theorem l1In_eq (x lo hi : Int) : s_l1In x lo hi = some (inR lo hi x) := by
  unfold s_l1In inR
  by_cases h : x ≥ lo
  · simp [h]
  · have : ¬ lo ≤ x := h
    simp [h, this]
theorem allWithin_eq {xs : List Int} (hl : xs.length ≤ lim) (lo hi : Int) : i_allWithin xs lo hi = some (xs.all (inR lo hi)) := by
  unfold i_allWithin
  rw [iter_all xs (inR lo hi) (fun k x hk => ?_) (by simp [i_allWithin_s2])]
  · cases xs.all (inR lo hi) <;> rfl
  · have hlt := len_lt hk
    have hd : decide ((k : Int) < (xs.length : Int)) = true := by simp; omega
    simp only [i_allWithin_s2, hd, cond_true, idx_some hk, Option.bind_some, within_eq, wrap_succ (Nat.le_trans (Nat.le_of_lt hlt) hl)]
    cases inR lo hi x <;> rfl
theorem l2Small_eq {xs : List Int} (hl : xs.length ≤ lim) {m : Int} (h0 : 0 ≤ m) (h1 : m ≤ 1000000000) : s_l2Small xs m = some (xs.all (inR (-m) m)) := by
  unfold s_l2Small
  rw [iter_all xs (inR (-m) m) (fun k x hk => ?_) (by simp [s_l2Small_s2])]
  · cases xs.all (inR (-m) m) <;> rfl
  · have hlt := len_lt hk
    have hd : decide ((k : Int) < (xs.length : Int)) = true := by simp; omega
    have hw : IntKind.i64.wrap (0 - m) = -m := by rw [wrap_id (by omega) (by omega)]; omega
    simp only [s_l2Small_s2, hd, cond_true, idx_some hk, Option.bind_some, l1In_eq, hw, wrap_succ (Nat.le_trans (Nat.le_of_lt hlt) hl)]
    cases inR (-m) m x <;> rfl
/-- A point of the plane within a bound. -/
def isPt (m : Int) (v : List Int) : Bool := v.length == 2 && v.all (inR (-m) m)
theorem isPoint_eq {v : List Int} (hl : v.length ≤ lim) {m : Int} (h0 : 0 ≤ m) (h1 : m ≤ 1000000) : i_isPoint v m = some (isPt m v) := by
  unfold i_isPoint isPt
  have hw : IntKind.i64.wrap (0 - m) = -m := by rw [wrap_id (by omega) (by omega)]; omega
  rw [hw, allWithin_eq hl, cond_ite]
  by_cases h : v.length = 2
  · rw [if_pos (by simp [h])]; simp [h]
  · rw [if_neg (by simp; omega)]
    have : (v.length == 2) = false := by simp [h]
    simp [this]
theorem isPt_iff {m : Int} {v : List Int} : isPt m v = true ↔ ∃ a b, v = [a, b] ∧ -m ≤ a ∧ a ≤ m ∧ -m ≤ b ∧ b ≤ m := by
  unfold isPt
  constructor
  · intro h
    simp only [Bool.and_eq_true, beq_iff_eq, List.all_eq_true] at h
    match v, h with
    | [a, b], ⟨_, h⟩ =>
      have ha := inR_iff.1 (h a (by simp))
      have hb := inR_iff.1 (h b (by simp))
      exact ⟨a, b, rfl, ha.1, ha.2, hb.1, hb.2⟩
  · rintro ⟨a, b, rfl, h1, h2, h3, h4⟩
    simp [inR_iff.2 ⟨h1, h2⟩, inR_iff.2 ⟨h3, h4⟩]
theorem remI_some {a b : Int} (hb : b ≠ 0) : remI .i64 a b = some (a.tmod b) := by simp [remI, hb]
/-! The plane. -/
/-- Numbers up to 2^30. -/
def Tn (x : Int) : Prop := -1073741824 ≤ x ∧ x ≤ 1073741824
theorem mul_tn {a b : Int} (ha : Tn a) (hb : Tn b) : -1152921504606846976 ≤ a * b ∧ a * b ≤ 1152921504606846976 := by
  obtain ⟨h1, h2⟩ := ha
  obtain ⟨h3, h4⟩ := hb
  have : (a * b).natAbs ≤ 1073741824 * 1073741824 := by
    rw [Int.natAbs_mul]
    exact Nat.mul_le_mul (by omega) (by omega)
  omega
theorem wrap_mul {a b : Int} (ha : Tn a) (hb : Tn b) : IntKind.i64.wrap (a * b) = a * b := by
  have := mul_tn ha hb
  exact wrap_id (by omega) (by omega)
def crs (a b c d : Int) : Int := a * d - b * c
theorem cross_wrap {a b c d : Int} (ha : Tn a) (hb : Tn b) (hc : Tn c) (hd : Tn d) : IntKind.i64.wrap (IntKind.i64.wrap (a * d) - IntKind.i64.wrap (b * c)) = crs a b c d := by
  rw [wrap_mul ha hd, wrap_mul hb hc]
  have h1 := mul_tn ha hd
  have h2 := mul_tn hb hc
  exact wrap_id (by omega) (by omega)
theorem cross_eq {a b c d : Int} (ha : Tn a) (hb : Tn b) (hc : Tn c) (hd : Tn d) : i_cross [a, b] [c, d] = some (crs a b c d) := by
  simp only [i_cross, idx_of (xs := [a, b]) (i := 0) (x := a) (by decide) rfl, idx_of (xs := [a, b]) (i := 1) (x := b) (by decide) rfl, idx_of (xs := [c, d]) (i := 0) (x := c) (by decide) rfl, idx_of (xs := [c, d]) (i := 1) (x := d) (by decide) rfl, Option.bind_some, cross_wrap ha hb hc hd]
theorem l7Cross_eq {a b c d : Int} (ha : Tn a) (hb : Tn b) (hc : Tn c) (hd : Tn d) : s_l7Cross [a, b] [c, d] = some (crs a b c d) := by
  simp only [s_l7Cross, idx_of (xs := [a, b]) (i := 0) (x := a) (by decide) rfl, idx_of (xs := [a, b]) (i := 1) (x := b) (by decide) rfl, idx_of (xs := [c, d]) (i := 0) (x := c) (by decide) rfl, idx_of (xs := [c, d]) (i := 1) (x := d) (by decide) rfl, Option.bind_some, cross_wrap ha hb hc hd]
end Go.Proofs.Ytcpdhjklcongoaa
