/-
  Plain: what a sail tells, for every drawn cone. No condition.
-/
import Derived.Test.YtdkkjgbgodnopaaPlHe
import Derived.Test.YtdkkjgbgodnopaaPlDr
namespace Go.Proofs.Ytdkkjgbgodnopaa
open Go Go.Proofs.Ytdkkjgbgodnopaa.Eng
set_option linter.unusedVariables false
set_option linter.unusedSimpArgs false

theorem dif_sum : ∀ (l : List Int) (p z : Int), (dif p (l ++ [z])).sum = z - p
  | [], p, z => by simp [dif]
  | q :: l, p, z => by
    simp only [List.cons_append, dif, List.sum_cons, dif_sum l q z]
    omega

theorem dif_len : ∀ (l : List Int) (p : Int), (dif p l).length = l.length
  | [], p => rfl
  | q :: l, p => by simp [dif, dif_len l q]

/-- Neighbors, one by one. -/
theorem far_get {L : List (List Int)} : ∀ (cs : List Nat) (p : Nat), Far L (p :: cs) → ∀ (i : Nat) (d : Int), (dif p (cs.map fun (n : Nat) => (n : Int)))[i]? = some d →
    ∃ a b, (p :: cs)[i]? = some a ∧ (p :: cs)[i + 1]? = some b ∧ crsL (L.getD a []) (L.getD b []) = d
  | [], p, _, i, d, h => by simp [dif] at h
  | q :: cs, p, hf, 0, d, h => by
    simp only [List.map_cons, dif, List.getElem?_cons_zero, Option.some.injEq] at h
    obtain ⟨_, hc, _⟩ := hf
    exact ⟨p, q, rfl, rfl, by rw [hc]; exact h⟩
  | q :: cs, p, hf, i + 1, d, h => by
    simp only [List.map_cons, dif, List.getElem?_cons_succ] at h
    obtain ⟨_, _, hf⟩ := hf
    obtain ⟨a, b, h1, h2, h3⟩ := far_get cs q hf i d h
    exact ⟨a, b, by simpa using h1, by simpa using h2, h3⟩

theorem sameInts_self {xs : List Int} (hl : xs.length ≤ lim) : w_sameInts xs xs = some true := by
  unfold w_sameInts
  rw [bne_self_eq_false, cond_false]
  have := iter_up (step := w_sameInts_s4 xs xs) xs.length (fun k => (k : Int)) (.inl ()) (fun k hk => by
    have hg : xs[k]? = some xs[k] := List.getElem?_eq_getElem hk
    unfold w_sameInts_s4
    rw [show decide ((k : Int) < (xs.length : Int)) = true from by simp; omega, cond_true, idx_some hg]
    simp only [Option.bind_some, bne_self_eq_false, cond_false, wrap_succ (k := k) (by omega)]
    rfl) (by unfold w_sameInts_s4; simp)
  have this : iter (w_sameInts_s4 xs xs) 0 = some (.inl ()) := this
  rw [this]; rfl

theorem sameLists_self {xs : List (List Int)} (hl : xs.length ≤ lim) (h : ∀ x ∈ xs, x.length ≤ lim) : w_sameLists xs xs = some true := by
  unfold w_sameLists
  rw [bne_self_eq_false, cond_false]
  have := iter_up (step := w_sameLists_s4 xs xs) xs.length (fun k => (k : Int)) (.inl ()) (fun k hk => by
    have hg : xs[k]? = some xs[k] := List.getElem?_eq_getElem hk
    unfold w_sameLists_s4
    rw [show decide ((k : Int) < (xs.length : Int)) = true from by simp; omega, cond_true, idx_some hg]
    simp only [Option.bind_some, sameInts_self (h _ (List.getElem_mem hk)), Bool.not_true, cond_false, wrap_succ (k := k) (by omega)]
    rfl) (by unfold w_sameLists_s4; simp)
  have this : iter (w_sameLists_s4 xs xs) 0 = some (.inl ()) := this
  rw [this]; rfl

theorem sum_take_succ {xs : List Int} {k : Nat} (hk : k < xs.length) : (xs.take (k + 1)).sum = (xs.take k).sum + xs[k] := by
  rw [List.take_add_one, List.getElem?_eq_getElem hk, List.sum_append]
  simp

theorem sum_bd {M : Int} (hM : 0 ≤ M) : ∀ (xs : List Int), (∀ x ∈ xs, -M ≤ x ∧ x ≤ M) → -(M * xs.length) ≤ xs.sum ∧ xs.sum ≤ M * xs.length
  | [], _ => by simp
  | x :: xs, h => by
    have ih := sum_bd hM xs fun y hy => h y (List.mem_cons_of_mem _ hy)
    have hx := h x (by simp)
    have e : M * ((x :: xs).length : Int) = M * xs.length + M := by
      rw [List.length_cons, Int.natCast_succ, Int.mul_add, Int.mul_one]
    rw [e, List.sum_cons]
    omega

theorem total_eq {xs : List Int} (hl : xs.length ≤ 10000) (h : ∀ x ∈ xs, -10000 ≤ x ∧ x ≤ 10000) : w_total xs = some xs.sum ∧ -100000000 ≤ xs.sum ∧ xs.sum ≤ 100000000 := by
  have hb : ∀ k, -100000000 ≤ (xs.take k).sum ∧ (xs.take k).sum ≤ 100000000 := fun k => by
    have := sum_bd (M := 10000) (by omega) (xs.take k) fun x hx => h x (List.mem_of_mem_take hx)
    have hl2 : (xs.take k).length ≤ 10000 := by simp; omega
    omega
  have hall := hb xs.length
  rw [List.take_length] at hall
  refine ⟨?_, hall⟩
  unfold w_total
  have := iter_up (step := w_total_s3 xs) xs.length (fun k => ((xs.take k).sum, (k : Int))) xs.sum (fun k hk => by
    have hg : xs[k]? = some xs[k] := List.getElem?_eq_getElem hk
    have b1 := hb (k + 1)
    rw [sum_take_succ hk] at b1
    unfold w_total_s3
    simp only
    rw [show decide ((k : Int) < (xs.length : Int)) = true from by simp; omega, cond_true, idx_some hg]
    simp only [Option.bind_some, wrap_id (x := (xs.take k).sum + xs[k]) (by omega) (by omega), wrap_succ (k := k) (by rw [lim_eq]; omega), sum_take_succ hk]
    rfl) (by unfold w_total_s3; simp)
  have this : iter (w_total_s3 xs) (0, 0) = some xs.sum := by simpa using this
  rw [this]; rfl

theorem wcross_eq {a b c d : Int} (ha : Tn a) (hb : Tn b) (hc : Tn c) (hd : Tn d) : w_cross [a, b] [c, d] = some (crs a b c d) := by
  unfold w_cross
  rw [show ((([a, b] : List Int).length : Int) != 2) = false from rfl, cond_false, show ((([c, d] : List Int).length : Int) != 2) = false from rfl, cond_false]
  have i0 : idx [a, b] 0 = some a := rfl
  have i1 : idx [c, d] 1 = some d := rfl
  have i2 : idx [a, b] 1 = some b := rfl
  have i3 : idx [c, d] 0 = some c := rfl
  simp only [i0, i1, i2, i3, Option.bind_some, cross_wrap ha hb hc hd]

theorem defect_fold : ∀ (T : List Int) (n : Int), T.foldl (fun n t => n + 3 - t) n = n + 3 * T.length - T.sum
  | [], n => by simp
  | t :: T, n => by
    rw [List.foldl_cons, defect_fold T, List.sum_cons, List.length_cons, Int.natCast_succ]
    omega

theorem defect_eq {T : List Int} (hl : T.length ≤ 1801) (ht : ∀ t ∈ T, -1800 ≤ t ∧ t ≤ 1800) : iter (s_TurnsDefect_s4 T) (0, 0) = some (T.foldl (fun n t => n + 3 - t) 0) ∧ iter (i_TurnsDefect_s3 T) (0, 0) = some (T.foldl (fun n t => n + 3 - t) 0) := by
  have hlim : T.length ≤ lim := Nat.le_trans hl (by decide)
  constructor
  · have := iter_list0 (step := s_TurnsDefect_s4 T) (fun a k => (a, k)) T (fun n t => .inl (n + 3 - t)) (fun n => n) (fun k n => -(2000 * (k : Int)) ≤ n ∧ n ≤ 2000 * (k : Int)) (fun k n t hk hn => ?_) (fun n hn => by simp [s_TurnsDefect_s4]) 0 ⟨by omega, by omega⟩
    · rw [this, runL_fold]
    · have hb := ht t (List.mem_of_getElem? hk)
      have hlt := len_lt hk
      have hd : decide ((k : Int) < (T.length : Int)) = true := by simp; omega
      have w1 : IntKind.i64.wrap (n + 3) = n + 3 := wrap_id (by omega) (by omega)
      have w2 : IntKind.i64.wrap (n + 3 - t) = n + 3 - t := wrap_id (by omega) (by omega)
      refine ⟨by simp only [s_TurnsDefect_s4, hd, cond_true, idx_some hk, Option.bind_some, w1, w2, wrap_succ (Nat.le_trans (Nat.le_of_lt hlt) hlim)], fun a' ha' => ?_⟩
      simp only [Sum.inl.injEq] at ha'
      omega
  · have := iter_list0 (step := i_TurnsDefect_s3 T) (fun a k => (a, k)) T (fun n t => .inl (n + 3 - t)) (fun n => n) (fun k n => -(2000 * (k : Int)) ≤ n ∧ n ≤ 2000 * (k : Int)) (fun k n t hk hn => ?_) (fun n hn => by simp [i_TurnsDefect_s3]) 0 ⟨by omega, by omega⟩
    · rw [this, runL_fold]
    · have hb := ht t (List.mem_of_getElem? hk)
      have hlt := len_lt hk
      have hd : decide ((k : Int) < (T.length : Int)) = true := by simp; omega
      have w1 : IntKind.i64.wrap (3 - t) = 3 - t := wrap_id (by omega) (by omega)
      have w2 : IntKind.i64.wrap (n + (3 - t)) = n + 3 - t := by rw [wrap_id (by omega) (by omega)]; omega
      refine ⟨by simp only [i_TurnsDefect_s3, hd, cond_true, idx_some hk, Option.bind_some, w1, w2, wrap_succ (Nat.le_trans (Nat.le_of_lt hlt) hlim)], fun a' ha' => ?_⟩
      simp only [Sum.inl.injEq] at ha'
      omega

/-- The steps, told. -/
theorem steps_full {c : Cn} (h1 : c.1.length ≤ lim) (h2 : c.2.length ≤ lim) {T : List Int} (t1 : s_TurnsOf (c.1, c.2) = some T) (t2 : i_TurnsOf (c.1, c.2) = some T) (t3 : T.length ≤ 1801) (t4 : isCn c = false → T = []) :
    ∃ r : List Int, s_SailSteps c = some r ∧ i_SailSteps c = some r ∧ (isCn c = false → r = []) ∧ (isCn c = true → r = dif 0 ((cposN 0 T ++ [T.length + 1]).map fun (n : Nat) => (n : Int))) := by
  have hs := s_steps t3 T [] [] 1 rfl (by simp) (by omega) (by simp)
  have hs : iter (s_SailSteps_s5 T) ([], (1, 0)) = some ((stp 1 T).1, (stp 1 T).2) := hs
  have hc := i_corn t3 T [] [0] rfl (by simp)
  have hc : iter (i_corners_s6 T) ([0], 0) = some ([0] ++ cpos 0 T) := hc
  simp only [s_SailSteps, i_SailSteps, i_corners, t1, t2, s_IsCone_eq (c := (c.1, c.2)) h1 h2, i_IsCone_eq (c := (c.1, c.2)) h1 h2, Option.bind_some, hs, hc]
  cases hb : isCn (c.1, c.2)
  · have hb2 : isCn c = false := hb
    have hT := t4 hb
    subst hT
    have hd : iter (i_SailSteps_s4 []) ([], 1) = some ([] : List Int) := iter_end rfl
    refine ⟨[], rfl, ?_, fun _ => rfl, fun h => by cases h⟩
    simp only [Bool.not_false, cond_true, Option.bind_some, hd]
  · have hb2 : isCn c = true := hb
    obtain ⟨m1, m2⟩ := cpos_mem T 0
    have hw : IntKind.i64.wrap ((T.length : Int) + 1) = ((0 + T.length + 1 : Nat) : Int) := by rw [wrap_id (by omega) (by omega)]; omega
    have ha := app_one (out := [0] ++ cpos 0 T) (z := ((0 + T.length + 1 : Nat) : Int)) (by simp; omega)
    have hsl := stp_len T 1
    have hd := i_dif (C := [0] ++ cpos 0 T ++ [((0 + T.length + 1 : Nat) : Int)]) (by simp; omega) (fun z hz => by
      simp only [List.mem_append, List.mem_singleton, List.mem_cons, List.not_mem_nil, or_false] at hz
      rcases hz with (rfl | hz) | rfl
      · omega
      · have := m2 z hz; omega
      · omega) (cpos 0 T ++ [((0 + T.length + 1 : Nat) : Int)]) [] 0 [] (by simp) (by simp)
    have hd : iter (i_SailSteps_s4 ([0] ++ cpos 0 T ++ [((0 + T.length + 1 : Nat) : Int)])) ([], 1) = some ([] ++ dif 0 (cpos 0 T ++ [((0 + T.length + 1 : Nat) : Int)])) := hd
    have key := dif_stp T 0 0
    have e1 : ((0 : Nat) : Int) + 1 - 0 = 1 := rfl
    rw [e1] at key
    have hd2 := hd
    rw [key, List.nil_append] at hd
    have ha2 := app_one (out := (stp 1 T).1) (z := (stp 1 T).2) (by omega)
    refine ⟨(stp 1 T).1 ++ [(stp 1 T).2], ?_, ?_, (fun h => by cases h), fun _ => ?_⟩
    · simp only [cond_true, ha2, Option.bind_some]
    · simp only [Bool.not_true, cond_false, hw, ha, Option.bind_some, hd]
    · rw [← key, cpos_cast, Nat.zero_add]
      try simp

/-- The corners' determinants are the steps. -/
theorem cross_loop {L : List (List Int)} (h : Chn L) (hL : L.length = (turns L).length + 2) (hF : Far L (cidx (turns L))) :
    iter (w_FnSails_s15 (pickU L (cidx (turns L))) (dif 0 ((cposN 0 (turns L) ++ [(turns L).length + 1]).map fun (n : Nat) => (n : Int)))) 0 = some (.inl ()) := by
  obtain ⟨_, c2, c3⟩ := cidx_ok (turns L)
  have hlen := h.len
  generalize hS : dif 0 ((cposN 0 (turns L) ++ [(turns L).length + 1]).map fun (n : Nat) => (n : Int)) = S
  have hSl : S.length + 1 = (cidx (turns L)).length := by rw [← hS, dif_len]; simp [cidx]
  have := iter_up (step := w_FnSails_s15 (pickU L (cidx (turns L))) S) S.length (fun k => (k : Int)) (.inl ()) (fun k hk => by
    obtain ⟨d, hg⟩ : ∃ d, S[k]? = some d := ⟨_, List.getElem?_eq_getElem hk⟩
    have hg2 := hg
    rw [← hS] at hg2
    obtain ⟨a, b, g1, g2, g3⟩ := far_get (L := L) _ 0 hF k _ hg2
    have ha : a < L.length := by have := c3 a (List.mem_of_getElem? g1); omega
    have hb : b < L.length := by have := c3 b (List.mem_of_getElem? g2); omega
    obtain ⟨x, y, x1, x2, xp⟩ := h.at (k := a) ha
    obtain ⟨z, w, z1, z2, zp⟩ := h.at (k := b) hb
    have i1 : (pickU L (cidx (turns L)))[k]? = some [x, y] := by
      have g1 : (cidx (turns L))[k]? = some a := g1
      unfold pickU
      rw [List.getElem?_map, g1]; simp [x1]
    have i2 : (pickU L (cidx (turns L)))[k + 1]? = some [z, w] := by
      have g2 : (cidx (turns L))[k + 1]? = some b := g2
      unfold pickU
      rw [List.getElem?_map, g2]; simp [z1]
    rw [x2, z2] at g3
    have wk : IntKind.i64.wrap ((k : Int) + 1) = ((k + 1 : Nat) : Int) := by rw [wrap_succ (k := k) (by rw [lim_eq]; omega)]; omega
    have hcr : w_cross [x, y] [z, w] = some d := by
      rw [wcross_eq xp.ta xp.tb zp.ta zp.tb]
      exact congrArg some g3
    unfold w_FnSails_s15
    rw [show decide ((k : Int) < (S.length : Int)) = true from by simp; omega, cond_true, idx_some i1]
    simp only [Option.bind_some, wk, idx_some i2, hcr, idx_some hg, bne_self_eq_false, cond_false]) (by unfold w_FnSails_s15; simp)
  exact this

theorem law_Sails (x : List Int) (hx : TyOk (.list (.int .u8)) x) : w_FnSails x = some true := by
  unfold w_FnSails w_big
  simp only [Option.bind_some]
  by_cases hbig : (x.length : Int) > 1048576
  · rw [show decide ((x.length : Int) > 1048576) = true from by simpa using hbig]; rfl
  rw [show decide ((x.length : Int) > 1048576) = false from by simpa using hbig, cond_false]
  obtain ⟨c, hc, l1, l2⟩ := drawSail_ok (code := x) (by omega)
  have k1 : c.1.length ≤ lim := by rw [lim_eq]; omega
  have k2 : c.2.length ≤ lim := by rw [lim_eq]; omega
  obtain ⟨r, a1, a2, a3, a4, a5, a6⟩ := sailCorners_full k1 k2
  obtain ⟨T, t1, t2, t3, t4⟩ := turnsOf_full (c := (c.1, c.2)) k1 k2
  have t4' : isCn c = false → T = [] := t4
  obtain ⟨T', t1', t2', _, t5⟩ := turnsOf_eq (c := (c.1, c.2)) k1 k2
  rw [t1] at t1'
  obtain rfl := Option.some.inj t1'
  obtain ⟨S, s1, s2, s3, s4⟩ := steps_full k1 k2 t1 t2 t3 t4'
  obtain ⟨D, d1, d2, d3⟩ := dual_eq (c := (c.1, c.2)) k1 k2
  obtain ⟨L, q1, q2, hChn⟩ := split_chn (c := (c.1, c.2)) k1 k2
  obtain ⟨f1, f2⟩ := defect_eq t3 t5
  rw [defect_fold] at f1 f2
  have a1 : s_SailCorners (c.1, c.2) = some r := a1
  have a2 : i_SailCorners (c.1, c.2) = some r := a2
  have s1 : s_SailSteps (c.1, c.2) = some S := s1
  have s2 : i_SailSteps (c.1, c.2) = some S := s2
  have hLT : T = turns L := by
    have : i_TurnsOf (c.1, c.2) = some (turns L) := by simp only [i_TurnsOf, q2, Option.bind_some, i_TurnsOf_eq hChn]
    rw [t2] at this
    exact Option.some.inj this
  have hSl : S.length ≤ 2000 := by
    cases hb : isCn c
    · rw [s3 hb]; simp
    · rw [s4 hb, dif_len]; have := (cposN_mem T 0).1; simp; omega
  have e1 : w_sameLists r r = some true := sameLists_self (by rw [lim_eq]; omega) fun v hv => by rw [a4 v hv, lim_eq]; omega
  have e2 : w_sameInts S S = some true := sameInts_self (by rw [lim_eq]; omega)
  have e3 : w_sameInts D D = some true := sameInts_self (by rw [lim_eq]; omega)
  have g1 : i_SailArea (c.1, c.2) = some (IntKind.i64.wrap ((L.length : Int) - 1)) := by simp only [i_SailArea, q2, Option.bind_some]
  have g2 : s_SailArea (c.1, c.2) = some (IntKind.i64.wrap ((L.length : Int) - 1)) := by simp only [s_SailArea, q1, Option.bind_some]
  have g3 : i_TurnsDefect (c.1, c.2) = some (0 + 3 * (T.length : Int) - T.sum) := by simp only [i_TurnsDefect, t2, Option.bind_some, f2]
  have g4 : s_TurnsDefect (c.1, c.2) = some (0 + 3 * (T.length : Int) - T.sum) := by simp only [s_TurnsDefect, t1, Option.bind_some, f1]
  have g5 : s_IsCone (c.1, c.2) = some (isCn c) := s_IsCone_eq (c := (c.1, c.2)) k1 k2
  obtain ⟨v1, v2, v3⟩ := total_eq (xs := T) (by omega) fun t ht => by have := t5 t ht; omega
  simp only [hc, Option.bind_some, a1, a2, s1, s2, d1, d2, t1, e1, e2, e3, Bool.not_true, cond_false, g1, g2, g3, g4, bne_self_eq_false, g5]
  cases hb : isCn c with
  | false =>
    have hr := a5 hb
    have hS := s3 hb
    have hD : D = [] := by
      have : i_DualTurns (c.1, c.2) = some [] := by
        have hb' : isCn (c.1, c.2) = false := hb
        simp only [i_DualTurns, i_ConeIndex_eq (c := (c.1, c.2)) k1 k2, Option.bind_some, hb']
        rfl
      rw [d2] at this
      exact Option.some.inj this
    rw [hr, hS, hD]
    rfl
  | true =>
    simp only [Bool.not_true, cond_false]
    obtain ⟨hr, hL2⟩ := a6 hb L q2
    have hS := s4 hb
    have hTl : T.length + 2 = L.length := by rw [hLT]; simp [turns]; omega
    have hlen1 : (r.length : Int) = S.length + 1 := by rw [hr, hS, dif_len]; simp [pickU, cidx, hLT]
    have w1 : IntKind.i64.wrap ((S.length : Int) + 1) = S.length + 1 := wrap_id (by omega) (by omega)
    have hLl := hChn.len
    have wL : IntKind.i64.wrap ((L.length : Int) - 1) = (L.length : Int) - 1 := wrap_id (by omega) (by omega)
    have hSsum : S.sum = (L.length : Int) - 1 := by
      rw [hS, List.map_append, List.map_singleton, dif_sum]; omega
    obtain ⟨a, b, p, q, y, z, rr, rfl, hu, hv, hD0, m1, m2, m3, hn, hhj⟩ := chain_of k1 k2 hb
    have q2' : i_SplitCone (([a, b], [p, q]) : Cn) = some L := q2
    rw [m2] at q2'
    obtain rfl := Option.some.inj q2'
    have hTT : T = hj 2000 (crs a b p q) (crs y z p q) := by rw [hLT, hhj]
    have hge : ∀ t ∈ T, 2 ≤ t := by rw [hTT]; exact hj_two _ _ _ hn.hi
    have hfar : Far ([a, b] :: [y, z] :: rr) (cidx (turns ([a, b] :: [y, z] :: rr))) :=
      far_corners m3 rfl (by rw [← hLT]; exact hge) hL2 (turns ([a, b] :: [y, z] :: rr)) [] 0 rfl (by simp) (by
        show crsL [a, b] [a, b] = _
        rw [crsL_self]; rfl) (by
        show crsL [a, b] [y, z] = _
        have := hn.one
        show crs a b y z = _
        rw [this]; rfl)
    have hSb : ∀ s ∈ S, -10000 ≤ s ∧ s ≤ 10000 := fun s hs => by
      obtain ⟨i, hi⟩ := List.mem_iff_getElem?.1 hs
      rw [hS, hLT] at hi
      obtain ⟨j, k, j1, j2, j3⟩ := far_get (L := [a, b] :: [y, z] :: rr) _ 0 hfar i s hi
      have := (cidx_ok (turns ([a, b] :: [y, z] :: rr))).2.2
      have hj := this j (List.mem_of_getElem? j1)
      have hk := this k (List.mem_of_getElem? j2)
      rw [← hLT] at hj hk
      obtain ⟨x1, y1, _, x2, xp⟩ := m3.at (k := j) (by omega)
      obtain ⟨x3, y3, _, x4, xq⟩ := m3.at (k := k) (by omega)
      rw [x2, x4] at j3
      have := cross_le xp xq
      have j3 : crs x1 y1 x3 y3 = s := j3
      omega
    obtain ⟨u1, _⟩ := total_eq (xs := S) (by omega) hSb
    have hloop := cross_loop m3 (by rw [← hLT]; omega) hfar
    rw [← hLT, ← hS] at hloop
    rw [hLT, ← hr] at hloop
    have w3 : IntKind.i64.wrap (3 * (T.length : Int)) = 3 * (T.length : Int) := wrap_id (by omega) (by omega)
    have w4 : IntKind.i64.wrap (3 * (T.length : Int) - T.sum) = 3 * (T.length : Int) - T.sum := wrap_id (by omega) (by omega)
    have hci : s_ConeIndex (([a, b], [p, q]) : Cn) = some (crs a b p q) := by
      simp only [s_ConeIndex, g5, hb, Bool.not_true, cond_false, Option.bind_some, (crs_pv hu hv).2]
    have hci : s_ConeIndex ([a, b], [p, q]) = some (crs a b p q) := hci
    have b1 : ((r.length : Int) != IntKind.i64.wrap ((S.length : Int) + 1)) = false := by rw [w1, hlen1]; simp
    have b2 : (S.sum != IntKind.i64.wrap ((([a, b] :: [y, z] :: rr).length : Int) - 1)) = false := by rw [wL, hSsum]; simp
    have b3 : ((0 + 3 * (T.length : Int) - T.sum) != IntKind.i64.wrap (IntKind.i64.wrap (3 * (T.length : Int)) - T.sum)) = false := by rw [w3, w4]; simp
    obtain ⟨D', dd1, dd2, dd3, dd4, dd5⟩ := dual_hj hu hv hD0 hb hn
    have d2' : i_DualTurns ([a, b], [p, q]) = some D := d2
    rw [d2'] at dd1
    obtain rfl := Option.some.inj dd1
    simp only [b1, cond_false, u1, Option.bind_some, b2, v1, b3, hloop, hci]
    have hnn := hn.lo
    have hnh := hn.hi
    cases hone : (crs a b p q == 1) with
    | true =>
      have hone : crs a b p q = 1 := by simpa using hone
      have hT0 : T = [] := by
        rw [hTT]
        have : crs y z p q = 0 := by omega
        rw [this]; rfl
      rw [dd3 hone, hT0]
      rfl
    | false =>
      simp only [cond_false]
      rcases dd2 with h0 | ⟨h0, h30, hg, hDD⟩
      · rw [h0]; rfl
      · cases hDl : ((D.length : Int) == 0) with
        | true => rfl
        | false =>
          simp only [cond_false]
          obtain ⟨z1, z2, z3⟩ := total_eq (xs := D) (by omega) fun t ht => by have := dd4 t ht; omega
          obtain ⟨y1, y2⟩ := balance h0 hnh h30 hg
          rw [← hDD, ← hTT] at y1 y2
          have w5 : IntKind.i64.wrap (D.sum - (D.length : Int)) = D.sum - D.length := wrap_id (by omega) (by omega)
          have w6 : IntKind.i64.wrap (T.sum - (T.length : Int)) = T.sum - T.length := wrap_id (by omega) (by omega)
          have w7 : IntKind.i64.wrap ((D.length : Int) + (T.length : Int)) = D.length + T.length := wrap_id (by omega) (by omega)
          have w8 : IntKind.i64.wrap (T.sum - (T.length : Int) + 1) = T.sum - T.length + 1 := wrap_id (by omega) (by omega)
          simp only [z1, v1, Option.bind_some, w5, w6, w7, w8, y1, beq_self_eq_true, cond_true, y2]

end Go.Proofs.Ytdkkjgbgodnopaa
