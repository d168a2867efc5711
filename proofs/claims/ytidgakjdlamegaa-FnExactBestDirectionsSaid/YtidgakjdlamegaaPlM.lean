/-
  Plain: marks and cones. No condition.
-/
import Derived.Test.YtidgakjdlamegaaPl4
namespace Go.Proofs.Ytidgakjdlamegaa
open Go Go.Proofs.Ytidgakjdlamegaa.Eng
set_option linter.unusedVariables false
set_option linter.unusedSimpArgs false

/-- What a mark leaves. -/
def ms (k : Int) (n : Nat) : List Int := (List.range n).map fun (i : Nat) => k + (i : Int)

theorem ms_len (k : Int) (n : Nat) : (ms k n).length = n := by simp [ms]

theorem ms_succ (k : Int) (n : Nat) : ms k (n + 1) = ms k n ++ [k + (n : Int)] := by simp [ms, List.range_succ]

theorem ms_get {k : Int} {n i : Nat} (h : i < n) : (ms k n)[i]? = some (k + (i : Int)) := by simp [ms, h]

theorem markIntS_eq {xs : List Int} (hl : xs.length ≤ 2097152) {k : Int} (h0 : 0 ≤ k) (h1 : k ≤ 1099511627776) : w_markIntS xs k = some (k + xs.length, (ms k xs.length, ())) := by
  have := iter_fun (step := w_markIntS_s2) (fun s => ∃ i, i ≤ xs.length ∧ s = (ms k i ++ xs.drop i, k + (i : Int), (i : Int))) (fun s => xs.length - s.2.2.toNat) (fun _ => (ms k xs.length, k + xs.length)) (fun s hs => ?_) (s := (xs, k, 0)) ⟨0, by omega, by simp [ms]⟩
  · simp only [w_markIntS, this, Option.bind_some]
  · obtain ⟨i, hi, rfl⟩ := hs
    have hlen : (ms k i ++ xs.drop i).length = xs.length := by simp [ms_len]; omega
    by_cases h : i < xs.length
    · right
      have hd : decide ((i : Int) < ((ms k i ++ xs.drop i).length : Nat)) = true := by rw [hlen]; simp; omega
      have hin : inIdx (ms k i ++ xs.drop i).length (i : Int) = some () := inIdx_nat (by omega)
      refine ⟨_, ?_, ⟨i + 1, by omega, rfl⟩, ?_, rfl⟩
      · simp only [w_markIntS_s2, hd, cond_true, Int.toNat_natCast, hin, Option.bind_some]
        have hw : IntKind.i64.wrap (k + (i : Int) + 1) = k + ((i + 1 : Nat) : Int) := by rw [wrap_id (by omega) (by omega)]; omega
        have hw2 : IntKind.i64.wrap ((i : Int) + 1) = ((i + 1 : Nat) : Int) := by rw [wrap_id (by omega) (by omega)]; omega
        have hset : (ms k i ++ xs.drop i).set i (k + (i : Int)) = ms k (i + 1) ++ xs.drop (i + 1) := by
          rw [List.set_append_right _ _ (by rw [ms_len]; exact Nat.le_refl _), ms_len, Nat.sub_self, List.drop_eq_getElem_cons h, List.set_cons_zero, ms_succ, List.append_assoc]
          rfl
        rw [hw, hw2, hset]
      · simp only [Int.toNat_natCast]; omega
    · left
      have hi2 : i = xs.length := by omega
      subst hi2
      have hd : decide (((xs.length : Nat) : Int) < ((ms k xs.length).length : Nat)) = false := by rw [ms_len]; simp
      simp only [w_markIntS_s2, List.drop_length, List.append_nil, hd, cond_false]

theorem heldIntS_eq {n : Nat} (hn : n ≤ 2097152) {k : Int} (h0 : 0 ≤ k) (h1 : k ≤ 1099511627776) : w_heldIntS (ms k n) k = some (k + (n : Int)) := by
  have := iter_fun (step := w_heldIntS_s2 (ms k n)) (fun s => ∃ i, i ≤ n ∧ s = (k + (i : Int), (i : Int))) (fun s => n - s.2.toNat) (fun _ => .inl (k + (n : Int))) (fun s hs => ?_) (s := (k, 0)) ⟨0, by omega, by simp⟩
  · simp only [w_heldIntS, this, Option.bind_some]
  · obtain ⟨i, hi, rfl⟩ := hs
    by_cases h : i < n
    · right
      have hd : decide ((i : Int) < ((ms k n).length : Nat)) = true := by rw [ms_len]; simp; omega
      refine ⟨_, ?_, ⟨i + 1, by omega, rfl⟩, ?_, rfl⟩
      · have hb : (k + (i : Int) != k + (i : Int)) = false := by simp
        simp only [w_heldIntS_s2, hd, cond_true, idx_some (ms_get h), Option.bind_some, hb, cond_false]
        have hw : IntKind.i64.wrap (k + (i : Int) + 1) = k + ((i + 1 : Nat) : Int) := by rw [wrap_id (by omega) (by omega)]; omega
        have hw2 : IntKind.i64.wrap ((i : Int) + 1) = ((i + 1 : Nat) : Int) := by rw [wrap_id (by omega) (by omega)]; omega
        rw [hw, hw2]
      · simp only [Int.toNat_natCast]; omega
    · left
      have hi2 : i = n := by omega
      subst hi2
      have hd : decide ((i : Int) < ((ms k i).length : Nat)) = false := by rw [ms_len]; simp
      simp only [w_heldIntS_s2, hd, cond_false]

/-! Cones. -/

def ConeTy : Ty := .prod (.list (.int .i64)) (.list (.int .i64))
abbrev Cn : Type := List Int × List Int

theorem szCone_eq {c : Cn} (h1 : c.1.length ≤ lim) (h2 : c.2.length ≤ lim) {left : Int} (h0 : 0 ≤ left) (hl : left ≤ 1048576) :
    w_szCone c left = some (if left < (c.1.length + c.2.length : Nat) then -1 else left - (c.1.length + c.2.length : Nat)) := by
  simp only [w_szCone, szIntS_eq h1 h0 hl, Option.bind_some]
  by_cases h : left < c.1.length
  · have : left < (c.1.length + c.2.length : Nat) := by omega
    simp only [if_pos h, if_pos this]; rfl
  · have hd : decide (left - (c.1.length : Int) < 0) = false := by simp; omega
    rw [if_neg h, hd, cond_false, szIntS_eq h2 (by omega) (by omega), Option.bind_some]
    by_cases h3 : left - (c.1.length : Int) < c.2.length
    · have : left < (c.1.length + c.2.length : Nat) := by omega
      simp only [if_pos h3, if_pos this]; rfl
    · have : ¬ left < (c.1.length + c.2.length : Nat) := by omega
      have hd : decide (left - (c.1.length : Int) - (c.2.length : Int) < 0) = false := by simp; omega
      rw [if_neg h3, if_neg this, hd, cond_false]
      congr 1; omega

theorem toCone_eq {c : Cn} (h1 : c.1.length ≤ 1048576) (h2 : c.2.length ≤ 1048576) : w_toCone c = some c := by
  simp only [w_toCone, toIntS_eq (xs := c.1) (by rw [lim_eq]; omega), toIntS_eq (xs := c.2) (by rw [lim_eq]; omega), Option.bind_some]

theorem eqCone_eq {c d : Cn} (h1 : c.1.length ≤ lim) (h2 : c.2.length ≤ lim) : w_eqCone c d = some (c == d) := by
  simp only [w_eqCone, eqIntS_eq h1, eqIntS_eq h2, Option.bind_some]
  have : (c == d) = ((c.1 == d.1) && (c.2 == d.2)) := rfl
  rw [this]
  cases (c.1 == d.1) <;> cases (c.2 == d.2) <;> rfl

/-- What a cone is. -/
def isCn (c : Cn) : Bool := isPt 30 c.1 && isPt 30 c.2 && (gcdL c.1 == 1) && (gcdL c.2 == 1) && decide (0 < crsL c.1 c.2)

theorem i_IsCone_eq {c : Cn} (h1 : c.1.length ≤ lim) (h2 : c.2.length ≤ lim) : i_IsCone c = some (isCn c) := by
  simp only [i_IsCone, isPoint_eq h1 (m := 30) (by omega) (by omega), isPoint_eq h2 (m := 30) (by omega) (by omega), Option.bind_some, isCn]
  cases p1 : isPt 30 c.1
  · simp
  cases p2 : isPt 30 c.2
  · simp
  simp only [cond_true, gcdAll_eq h1 (isPt_sm (m := 30) (by omega) p1), gcdAll_eq h2 (isPt_sm (m := 30) (by omega) p2), Option.bind_some, (crossL_eq (m := 30) (by omega) p1 p2).1]
  cases (gcdL c.1 == 1) <;> cases (gcdL c.2 == 1) <;> simp

theorem s_l9Ray_eq {v : List Int} (h1 : v.length ≤ lim) : s_l9Ray v = some (isPt 30 v && (gcdL v == 1)) := by
  unfold s_l9Ray isPt
  have e : ((v.length : Int) == (2 : Int)) = (v.length == 2) := by
    rw [Bool.eq_iff_iff]; simp; omega
  rw [e]
  cases hl : v.length == 2
  · simp
  · simp only [cond_true, l2Small_eq h1 (m := 30) (by omega) (by omega), Option.bind_some, Bool.true_and]
    cases ha : v.all (inR (-30) 30)
    · simp
    · have hp : isPt 30 v = true := by unfold isPt; rw [hl, ha]; rfl
      simp only [cond_true, l2All_eq h1 (isPt_sm (m := 30) (by omega) hp), Option.bind_some, Bool.true_and]

theorem s_IsCone_eq {c : Cn} (h1 : c.1.length ≤ lim) (h2 : c.2.length ≤ lim) : s_IsCone c = some (isCn c) := by
  simp only [s_IsCone, s_l9Ray_eq h1, s_l9Ray_eq h2, Option.bind_some, isCn]
  cases p1 : isPt 30 c.1
  · simp
  cases p2 : isPt 30 c.2
  · cases (gcdL c.1 == 1) <;> simp
  cases g1 : gcdL c.1 == 1
  · simp
  cases g2 : gcdL c.2 == 1
  · simp
  simp [(crossL_eq (m := 30) (by omega) p1 p2).2]

end Go.Proofs.Ytidgakjdlamegaa
