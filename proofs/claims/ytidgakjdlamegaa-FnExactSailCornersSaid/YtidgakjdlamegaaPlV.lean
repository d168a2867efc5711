/-
  Plain: the steps of a sail. No condition.
-/
import Derived.Test.YtidgakjdlamegaaPlD
namespace Go.Proofs.Ytidgakjdlamegaa
open Go Go.Proofs.Ytidgakjdlamegaa.Eng
set_option linter.unusedVariables false
set_option linter.unusedSimpArgs false

/-- Where the turns are greater than 2. -/
def cpos : Nat → List Int → List Int
  | _, [] => []
  | k, t :: r => if 2 < t then ((k + 1 : Nat) : Int) :: cpos (k + 1) r else cpos (k + 1) r

def dif : Int → List Int → List Int
  | _, [] => []
  | p, q :: r => (q - p) :: dif q r

def stp : Int → List Int → List Int × Int
  | n, [] => ([], n)
  | n, t :: r => if 2 < t then (n :: (stp 1 r).1, (stp 1 r).2) else stp (n + 1) r

theorem dif_stp : ∀ (r : List Int) (k : Nat) (p : Int), dif p (cpos k r ++ [((k + r.length + 1 : Nat) : Int)]) = (stp ((k : Int) + 1 - p) r).1 ++ [(stp ((k : Int) + 1 - p) r).2]
  | [], k, p => by simp [cpos, dif, stp]
  | t :: r, k, p => by
    have ih := dif_stp r (k + 1)
    have e : k + (t :: r).length + 1 = k + 1 + r.length + 1 := by simp; omega
    rw [e]
    by_cases h : 2 < t
    · simp only [cpos, stp, if_pos h, List.cons_append, dif]
      rw [ih]
      have e1 : ((k + 1 : Nat) : Int) + 1 - ((k + 1 : Nat) : Int) = 1 := by omega
      have e2 : ((k + 1 : Nat) : Int) - p = (k : Int) + 1 - p := by omega
      rw [e1, e2]
    · simp only [cpos, stp, if_neg h]
      rw [ih]
      have e1 : ((k + 1 : Nat) : Int) + 1 - p = (k : Int) + 1 - p + 1 := by omega
      rw [e1]

theorem cpos_mem : ∀ (r : List Int) (k : Nat), (cpos k r).length ≤ r.length ∧ ∀ z ∈ cpos k r, 0 ≤ z ∧ z ≤ ((k + r.length : Nat) : Int)
  | [], k => by simp [cpos]
  | t :: r, k => by
    obtain ⟨h1, h2⟩ := cpos_mem r (k + 1)
    simp only [cpos]
    split
    · refine ⟨by simp; omega, fun z hz => ?_⟩
      rcases List.mem_cons.1 hz with rfl | hz
      · simp; omega
      · have := h2 z hz; simp at this ⊢; omega
    · refine ⟨by simp; omega, fun z hz => ?_⟩
      have := h2 z hz; simp at this ⊢; omega

theorem stp_len : ∀ (r : List Int) (n : Int), (stp n r).1.length ≤ r.length
  | [], n => by simp [stp]
  | t :: r, n => by
    simp only [stp]
    split
    · have := stp_len r 1; simp; omega
    · have := stp_len r (n + 1); simp; omega

theorem app_one {out : List Int} {z : Int} (h : out.length ≤ 10000) : appD 8 out [z] = some (out ++ [z]) := by rw [appD_some (by rw [lim_eq]; simp; omega) (by rw [lim_eq]; simp; omega)]

theorem i_corn {T : List Int} (hl : T.length ≤ 1801) : ∀ (r pre : List Int) (out : List Int), T = pre ++ r → out.length ≤ pre.length + 1 → iter (i_corners_s6 T) (out, (pre.length : Int)) = some (out ++ cpos pre.length r)
  | [], pre, out, hT, ho => by
    have hd : decide ((pre.length : Int) < (T.length : Int)) = false := by rw [hT]; simp
    rw [iter_end (y := out) (by simp only [i_corners_s6, hd, cond_false])]
    simp [cpos]
  | t :: r, pre, out, hT, ho => by
    have hlen : T.length = pre.length + 1 + r.length := by rw [hT]; simp; omega
    have hk : T[pre.length]? = some t := by rw [hT]; simp
    have hd : decide ((pre.length : Int) < (T.length : Int)) = true := by rw [hT]; simp; omega
    have w1 : IntKind.i64.wrap ((pre.length : Int) + 1) = ((pre.length + 1 : Nat) : Int) := by rw [wrap_id (by omega) (by omega)]; simp
    have hT' : T = (pre ++ [t]) ++ r := by rw [hT]; simp
    have hpl : (pre ++ [t]).length = pre.length + 1 := by simp
    by_cases h : 2 < t
    · have dt : decide (t > 2) = true := by simpa using h
      rw [iter_next (s' := (out ++ [((pre.length + 1 : Nat) : Int)], ((pre.length + 1 : Nat) : Int))) (by simp only [i_corners_s6, hd, cond_true, idx_some hk, Option.bind_some, dt, w1, app_one (out := out) (z := ((pre.length + 1 : Nat) : Int)) (by omega)])]
      have := i_corn hl r (pre ++ [t]) (out ++ [((pre.length + 1 : Nat) : Int)]) hT' (by simp; omega)
      rw [hpl] at this
      rw [this]
      simp only [cpos, if_pos h, List.append_assoc, List.singleton_append]
    · have dt : decide (t > 2) = false := by simpa using h
      rw [iter_next (s' := (out, ((pre.length + 1 : Nat) : Int))) (by simp only [i_corners_s6, hd, cond_true, idx_some hk, Option.bind_some, dt, cond_false, w1])]
      have := i_corn hl r (pre ++ [t]) out hT' (by simp; omega)
      rw [hpl] at this
      rw [this]
      simp only [cpos, if_neg h]

theorem turnsOf_full {c : Cn} (h1 : c.1.length ≤ lim) (h2 : c.2.length ≤ lim) : ∃ T : List Int, s_TurnsOf c = some T ∧ i_TurnsOf c = some T ∧ T.length ≤ 1801 ∧ (isCn c = false → T = []) := by
  obtain ⟨L, q1, q2, q3, q4, q5⟩ := split_eq h1 h2
  obtain ⟨L', r1, r2, h⟩ := split_chn h1 h2
  rw [q1] at r1
  obtain rfl := Option.some.inj r1
  have q1 : s_SplitCone (c.1, c.2) = some L := q1
  have q2 : i_SplitCone (c.1, c.2) = some L := q2
  refine ⟨turns L, by simp only [s_TurnsOf, q1, Option.bind_some, s_TurnsOf_eq h], by simp only [i_TurnsOf, q2, Option.bind_some, i_TurnsOf_eq h], ?_, fun hc => by rw [q4 hc]; rfl⟩
  have := h.len
  simp [turns]; omega

end Go.Proofs.Ytidgakjdlamegaa
