/-
  Plain: the steps of a sail. No condition.
-/
import Derived.Test.YtdkkjgbgodnopaaPlD
namespace Go.Proofs.Ytdkkjgbgodnopaa
open Go Go.Proofs.Ytdkkjgbgodnopaa.Eng
set_option linter.unusedVariables false
set_option linter.unusedSimpArgs false

/-- Where the turns are greater than 2. -/
def cpos : Nat → List Int → List Int
  | _, [] => []
  | k, t :: r => if 2 < t then ((k + 1 : Nat) : Int) :: cpos (k + 1) r else cpos (k + 1) r

def dif : Int → List Int → List Int
  | _, [] => []
  | p, q :: r => (q - p) :: dif q r

def stp : Int → List Int → List Int × Int
  | n, [] => ([], n)
  | n, t :: r => if 2 < t then (n :: (stp 1 r).1, (stp 1 r).2) else stp (n + 1) r

theorem dif_stp : ∀ (r : List Int) (k : Nat) (p : Int), dif p (cpos k r ++ [((k + r.length + 1 : Nat) : Int)]) = (stp ((k : Int) + 1 - p) r).1 ++ [(stp ((k : Int) + 1 - p) r).2]
  | [], k, p => by simp [cpos, dif, stp]
  | t :: r, k, p => by
    have ih := dif_stp r (k + 1)
    have e : k + (t :: r).length + 1 = k + 1 + r.length + 1 := by simp; omega
    rw [e]
    by_cases h : 2 < t
    · simp only [cpos, stp, if_pos h, List.cons_append, dif]
      rw [ih]
      have e1 : ((k + 1 : Nat) : Int) + 1 - ((k + 1 : Nat) : Int) = 1 := by omega
      have e2 : ((k + 1 : Nat) : Int) - p = (k : Int) + 1 - p := by omega
      rw [e1, e2]
    · simp only [cpos, stp, if_neg h]
      rw [ih]
      have e1 : ((k + 1 : Nat) : Int) + 1 - p = (k : Int) + 1 - p + 1 := by omega
      rw [e1]

theorem cpos_mem : ∀ (r : List Int) (k : Nat), (cpos k r).length ≤ r.length ∧ ∀ z ∈ cpos k r, 0 ≤ z ∧ z ≤ ((k + r.length : Nat) : Int)
  | [], k => by simp [cpos]
  | t :: r, k => by
    obtain ⟨h1, h2⟩ := cpos_mem r (k + 1)
    simp only [cpos]
    split
    · refine ⟨by simp; omega, fun z hz => ?_⟩
      rcases List.mem_cons.1 hz with rfl | hz
      · simp; omega
      · have := h2 z hz; simp at this ⊢; omega
    · refine ⟨by simp; omega, fun z hz => ?_⟩
      have := h2 z hz; simp at this ⊢; omega

theorem stp_len : ∀ (r : List Int) (n : Int), (stp n r).1.length ≤ r.length
  | [], n => by simp [stp]
  | t :: r, n => by
    simp only [stp]
    split
    · have := stp_len r 1; simp; omega
    · have := stp_len r (n + 1); simp; omega

theorem app_one {out : List Int} {z : Int} (h : out.length ≤ 10000) : appD 8 out [z] = some (out ++ [z]) := by rw [appD_some (by rw [lim_eq]; simp; omega) (by rw [lim_eq]; simp; omega)]

theorem s_steps {T : List Int} (hl : T.length ≤ 1801) : ∀ (r pre : List Int) (out : List Int) (n : Int), T = pre ++ r → out.length ≤ pre.length → 0 ≤ n → n ≤ pre.length + 1 → iter (s_SailSteps_s5 T) (out, (n, (pre.length : Int))) = some (out ++ (stp n r).1, (stp n r).2)
  | [], pre, out, n, hT, ho, h0, h1 => by
    have hd : decide ((pre.length : Int) < (T.length : Int)) = false := by rw [hT]; simp
    rw [iter_end (y := (out, n)) (by simp only [s_SailSteps_s5, hd, cond_false])]
    simp [stp]
  | t :: r, pre, out, n, hT, ho, h0, h1 => by
    have hlen : T.length = pre.length + 1 + r.length := by rw [hT]; simp; omega
    have hk : T[pre.length]? = some t := by rw [hT]; simp
    have hd : decide ((pre.length : Int) < (T.length : Int)) = true := by rw [hT]; simp; omega
    have w1 : IntKind.i64.wrap ((pre.length : Int) + 1) = (((pre ++ [t]).length : Nat) : Int) := by rw [wrap_id (by omega) (by omega)]; simp
    have w2 : IntKind.i64.wrap (n + 1) = n + 1 := wrap_id (by omega) (by omega)
    have w3 : IntKind.i64.wrap ((0 : Int) + 1) = 1 := rfl
    have hT' : T = (pre ++ [t]) ++ r := by rw [hT]; simp
    by_cases h : 2 < t
    · have dt : decide (t > 2) = true := by simpa using h
      rw [iter_next (s' := (out ++ [n], (1, (((pre ++ [t]).length : Nat) : Int)))) (by simp only [s_SailSteps_s5, hd, cond_true, idx_some hk, Option.bind_some, dt, app_one (out := out) (z := n) (by omega), w1, w3])]
      rw [s_steps hl r (pre ++ [t]) (out ++ [n]) 1 hT' (by simp; omega) (by omega) (by simp; omega)]
      simp only [stp, if_pos h, List.append_assoc, List.singleton_append]
    · have dt : decide (t > 2) = false := by simpa using h
      rw [iter_next (s' := (out, (n + 1, (((pre ++ [t]).length : Nat) : Int)))) (by simp only [s_SailSteps_s5, hd, cond_true, idx_some hk, Option.bind_some, dt, cond_false, w1, w2])]
      rw [s_steps hl r (pre ++ [t]) out (n + 1) hT' (by simp; omega) (by omega) (by simp; omega)]
      simp only [stp, if_neg h]

theorem i_corn {T : List Int} (hl : T.length ≤ 1801) : ∀ (r pre : List Int) (out : List Int), T = pre ++ r → out.length ≤ pre.length + 1 → iter (i_corners_s6 T) (out, (pre.length : Int)) = some (out ++ cpos pre.length r)
  | [], pre, out, hT, ho => by
    have hd : decide ((pre.length : Int) < (T.length : Int)) = false := by rw [hT]; simp
    rw [iter_end (y := out) (by simp only [i_corners_s6, hd, cond_false])]
    simp [cpos]
  | t :: r, pre, out, hT, ho => by
    have hlen : T.length = pre.length + 1 + r.length := by rw [hT]; simp; omega
    have hk : T[pre.length]? = some t := by rw [hT]; simp
    have hd : decide ((pre.length : Int) < (T.length : Int)) = true := by rw [hT]; simp; omega
    have w1 : IntKind.i64.wrap ((pre.length : Int) + 1) = ((pre.length + 1 : Nat) : Int) := by rw [wrap_id (by omega) (by omega)]; simp
    have hT' : T = (pre ++ [t]) ++ r := by rw [hT]; simp
    have hpl : (pre ++ [t]).length = pre.length + 1 := by simp
    by_cases h : 2 < t
    · have dt : decide (t > 2) = true := by simpa using h
      rw [iter_next (s' := (out ++ [((pre.length + 1 : Nat) : Int)], ((pre.length + 1 : Nat) : Int))) (by simp only [i_corners_s6, hd, cond_true, idx_some hk, Option.bind_some, dt, w1, app_one (out := out) (z := ((pre.length + 1 : Nat) : Int)) (by omega)])]
      have := i_corn hl r (pre ++ [t]) (out ++ [((pre.length + 1 : Nat) : Int)]) hT' (by simp; omega)
      rw [hpl] at this
      rw [this]
      simp only [cpos, if_pos h, List.append_assoc, List.singleton_append]
    · have dt : decide (t > 2) = false := by simpa using h
      rw [iter_next (s' := (out, ((pre.length + 1 : Nat) : Int))) (by simp only [i_corners_s6, hd, cond_true, idx_some hk, Option.bind_some, dt, cond_false, w1])]
      have := i_corn hl r (pre ++ [t]) out hT' (by simp; omega)
      rw [hpl] at this
      rw [this]
      simp only [cpos, if_neg h]

theorem i_dif {C : List Int} (hl : C.length ≤ 4000) (hC : ∀ z ∈ C, 0 ≤ z ∧ z ≤ 4000) : ∀ (r pre : List Int) (p : Int) (out : List Int), C = pre ++ p :: r → out.length ≤ pre.length → iter (i_SailSteps_s4 C) (out, ((pre.length + 1 : Nat) : Int)) = some (out ++ dif p r)
  | [], pre, p, out, hT, ho => by
    have hd : decide (((pre.length + 1 : Nat) : Int) < (C.length : Int)) = false := by rw [hT]; simp
    rw [iter_end (y := out) (by simp only [i_SailSteps_s4, hd, cond_false])]
    simp [dif]
  | q :: r, pre, p, out, hT, ho => by
    have hlen : C.length = pre.length + 2 + r.length := by rw [hT]; simp; omega
    have hk0 : C[pre.length]? = some p := by rw [hT]; simp
    have hT' : C = (pre ++ [p]) ++ q :: r := by rw [hT]; simp
    have hpl : (pre ++ [p]).length = pre.length + 1 := by simp
    have hk : C[pre.length + 1]? = some q := by rw [hT', ← hpl]; simp
    have hp := hC p (List.mem_of_getElem? hk0)
    have hq := hC q (List.mem_of_getElem? hk)
    have hd : decide (((pre.length + 1 : Nat) : Int) < (C.length : Int)) = true := by simp; omega
    have w1 : IntKind.i64.wrap (((pre.length + 1 : Nat) : Int) + 1) = ((pre.length + 1 + 1 : Nat) : Int) := by rw [wrap_id (by omega) (by omega)]; simp
    have w2 : IntKind.i64.wrap (((pre.length + 1 : Nat) : Int) - 1) = (pre.length : Int) := by rw [wrap_id (by omega) (by omega)]; omega
    have w3 : IntKind.i64.wrap (q - p) = q - p := wrap_id (by omega) (by omega)
    rw [iter_next (s' := (out ++ [q - p], ((pre.length + 1 + 1 : Nat) : Int))) (by simp only [i_SailSteps_s4, hd, cond_true, w2, idx_some hk, idx_some hk0, Option.bind_some, w3, app_one (out := out) (z := q - p) (by omega), w1])]
    have := i_dif hl hC r (pre ++ [p]) q (out ++ [q - p]) hT' (by simp; omega)
    rw [hpl] at this
    rw [this]
    simp only [dif, List.append_assoc, List.singleton_append]

theorem turnsOf_full {c : Cn} (h1 : c.1.length ≤ lim) (h2 : c.2.length ≤ lim) : ∃ T : List Int, s_TurnsOf c = some T ∧ i_TurnsOf c = some T ∧ T.length ≤ 1801 ∧ (isCn c = false → T = []) := by
  obtain ⟨L, q1, q2, q3, q4, q5⟩ := split_eq h1 h2
  obtain ⟨L', r1, r2, h⟩ := split_chn h1 h2
  rw [q1] at r1
  obtain rfl := Option.some.inj r1
  have q1 : s_SplitCone (c.1, c.2) = some L := q1
  have q2 : i_SplitCone (c.1, c.2) = some L := q2
  refine ⟨turns L, by simp only [s_TurnsOf, q1, Option.bind_some, s_TurnsOf_eq h], by simp only [i_TurnsOf, q2, Option.bind_some, i_TurnsOf_eq h], ?_, fun hc => by rw [q4 hc]; rfl⟩
  have := h.len
  simp [turns]; omega

theorem steps_eq {c : Cn} (h1 : c.1.length ≤ lim) (h2 : c.2.length ≤ lim) : ∃ r : List Int, s_SailSteps c = some r ∧ i_SailSteps c = some r ∧ r.length ≤ 1802 := by
  obtain ⟨T, t1, t2, t3, t4⟩ := turnsOf_full (c := (c.1, c.2)) h1 h2
  have hs := s_steps t3 T [] [] 1 rfl (by simp) (by omega) (by simp)
  have hs : iter (s_SailSteps_s5 T) ([], (1, 0)) = some ((stp 1 T).1, (stp 1 T).2) := hs
  have hc := i_corn t3 T [] [0] rfl (by simp)
  have hc : iter (i_corners_s6 T) ([0], 0) = some ([0] ++ cpos 0 T) := hc
  simp only [s_SailSteps, i_SailSteps, i_corners, t1, t2, s_IsCone_eq (c := (c.1, c.2)) h1 h2, i_IsCone_eq (c := (c.1, c.2)) h1 h2, Option.bind_some, hs, hc]
  cases hb : isCn (c.1, c.2)
  · have hT := t4 hb
    subst hT
    have hd : iter (i_SailSteps_s4 []) ([], 1) = some ([] : List Int) := iter_end rfl
    refine ⟨[], rfl, ?_, by simp⟩
    simp only [Bool.not_false, cond_true, Option.bind_some, hd]
  · obtain ⟨m1, m2⟩ := cpos_mem T 0
    have hw : IntKind.i64.wrap ((T.length : Int) + 1) = ((0 + T.length + 1 : Nat) : Int) := by rw [wrap_id (by omega) (by omega)]; omega
    have ha := app_one (out := [0] ++ cpos 0 T) (z := ((0 + T.length + 1 : Nat) : Int)) (by simp; omega)
    have hsl := stp_len T 1
    have hd := i_dif (C := [0] ++ cpos 0 T ++ [((0 + T.length + 1 : Nat) : Int)]) (by simp; omega) (fun z hz => by
      simp only [List.mem_append, List.mem_singleton, List.mem_cons, List.not_mem_nil, or_false] at hz
      rcases hz with (rfl | hz) | rfl
      · omega
      · have := m2 z hz; omega
      · omega) (cpos 0 T ++ [((0 + T.length + 1 : Nat) : Int)]) [] 0 [] (by simp) (by simp)
    have hd : iter (i_SailSteps_s4 ([0] ++ cpos 0 T ++ [((0 + T.length + 1 : Nat) : Int)])) ([], 1) = some ([] ++ dif 0 (cpos 0 T ++ [((0 + T.length + 1 : Nat) : Int)])) := hd
    have key := dif_stp T 0 0
    have e1 : ((0 : Nat) : Int) + 1 - 0 = 1 := rfl
    rw [e1] at key
    rw [key, List.nil_append] at hd
    have ha2 := app_one (out := (stp 1 T).1) (z := (stp 1 T).2) (by omega)
    refine ⟨(stp 1 T).1 ++ [(stp 1 T).2], ?_, ?_, by simp; omega⟩
    · simp only [cond_true, ha2, Option.bind_some]
    · simp only [Bool.not_true, cond_false, hw, ha, Option.bind_some, hd]

end Go.Proofs.Ytdkkjgbgodnopaa
